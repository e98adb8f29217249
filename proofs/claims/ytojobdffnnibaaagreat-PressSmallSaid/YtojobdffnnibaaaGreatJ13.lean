/- PressActs: the reference's Do. PressActs: the reference's code of a state. PressActs: the reference's Code. PressActs: what the walk asks of each function, in one form. press.machine.decoded. -/
import Derived.Test.YtojobdffnnibaaaGreatActsD
import Derived.Test.YtojobdffnnibaaaGreatJ11
import Derived.Test.YtojobdffnnibaaaGreatActsC
import Derived.Test.YtojobdffnnibaaaGreatActsG
import Derived.Test.YtojobdffnnibaaaGreatActsH
import Derived.Test.YtojobdffnnibaaaGreatJ8
namespace Go.Proofs.YtojobdffnnibaaaGreat
open Go.RowKit
set_option linter.unusedVariables false
set_option linter.unusedSimpArgs false
set_option maxRecDepth 100000 in
set_option maxHeartbeats 4000000 in
theorem rDo_any (p : PressD) (s : StD) (k x : Int) (vj vu : Value) (w : World) (hj : Truths w vj p.jam) (hu : UnIn w vu s.units) (hl : s.units.length ≤ 1000000) :
 Calls Tryz.prog 62 #[pV vj p, sV vu s, .agg #[.int .i64 k, .int .i64 x]] w fun e w' => ∃ v, e = .returned (.tuple #[sV v (doS p s k x), .int .i64 (doErr p s k x)]) ∧ UnIn w' v (doS p s k x).units ∧ Ext w w' ∧ ∀ b, v.ownBlock = some b → w.heap.size ≤ b := by
 have hst := fun w1 (kx : Ext w w1) => rStarted_any p s vj vu w1 (Sl.ext hj kx) (hu.ext kx) hl; have hac := fun (g : Good p s) W (kx : Ext w W) => rAct_any g k x vj vu W (Sl.ext hj kx) (hu.ext kx); obtain ⟨a, c, rfl, _⟩ := hu.form; clear hu; obtain ⟨_, aj, cj, hvj, _⟩ := hj; rw [List.length_map] at hvj; subst hvj; obtain ⟨n, hn⟩ : ∃ n, s.units.length = n := ⟨_, rfl⟩; unfold pV sV at hst hac; rw [hn] at hst hac hl; unfold pV sV; rw [hn]; obtain ⟨e1, he1⟩ : ∃ e, stErr p s = e := ⟨_, rfl⟩; rw [he1] at hst; have HST := Hd hst; have HAC := Hd hac; have HN := Hd hn; have HE1 := Hd he1; have HL := Hd hl; clear hst hac hn he1 hl
 go_enter Tryz.func62, Tryz.ntmps62
 go_upto_region 2 with (first
  | (with_reducible refine wpList_boxA (t := 24) (cs := #[.slice aj p.jam.length cj, .int .i64 p.warm, .int .i64 p.tail, .int .i64 p.dirt]) rfl rfl rfl ?_
     rintro xb w1 hx1 hx2 hx3; have PB := Hd hx1; have X1 := Hd hx2; clear hx1 hx2
     clear hx3)
  | (with_reducible refine wpList_boxA (t := 27) (cs := #[.int .i64 s.drive, .bool s.folder, .slice a n c, .int .i64 s.fresh]) rfl rfl rfl ?_
     rintro sb w2 hy1 hy2 hy3; have pb2 := PB.out.ext hy2; have x2 := X1.out.tr hy2; clear PB X1; have SB := Hd hy1; have PB := Hd pb2; have X1 := Hd x2; clear hy1 pb2 x2
     clear hy3 hy2)
  | (with_reducible refine wpList_boxA (t := 66) (cs := #[.int .i64 k, .int .i64 x]) rfl rfl rfl ?_
     rintro ab w3 hy1 hy2 hy3; have pb2 := PB.out.ext hy2; have sb2 := SB.out.ext hy2; have x2 := X1.out.tr hy2; clear PB X1 SB; have SB := Hd sb2; have PB := Hd pb2; have X1 := Hd x2; have AB := Hd hy1; clear sb2 pb2 x2 hy1
     clear hy3 hy2)
  | (with_reducible refine wpList_allocA (t := 27) rfl rfl Tryz.zeroValue27 ?_
     rintro rb w4 hy1 hy2 hy3; have pb2 := PB.out.ext hy2; have sb2 := SB.out.ext hy2; have ab2 := AB.out.ext hy2; have lr := Nat.le_trans X1.out.size hy3; have x2 := X1.out.tr hy2; have c1 := pb2.cell; have c2 := sb2.cell; clear PB X1 SB AB; have SB := Hd sb2; have PB := Hd pb2; have X1 := Hd x2; have AB := Hd ab2; have RB := Hd hy1; have LR := Hd lr; clear sb2 pb2 x2 ab2 hy1 lr
     clear hy3 hy2)
  | (go_at_call 46
     refine (HST.out _ X1.out).mono ?_; rintro e w5 ⟨rfl, hx⟩; have pb2 := PB.out.ext hx; have sb2 := SB.out.ext hx; have ab2 := AB.out.ext hx; have rb2 := RB.out.ext hx; have x2 := X1.out.tr hx; have lw5 := x2.size; clear c1 c2 PB X1 SB AB RB hx HST; have LW5 := Hd lw5; clear lw5; have c1 := pb2.cell; have c2 := sb2.cell; have c3 := ab2.cell; have SB := Hd sb2; have PB := Hd pb2; have X1 := Hd x2; have AB := Hd ab2; have RB := Hd rb2
     clear sb2 pb2 x2 ab2 rb2))
 by_cases h1 : e1 = 0
 {
 subst h1; have g := (good_iff p s).1 HE1.out; have hac2 := HAC.out g; have hde : doErr p s k x = actErr p s k x := (by unfold doErr; rw [if_neg (by rw [HE1.out]; simp)]); obtain ⟨e2, he2⟩ : ∃ e, actErr p s k x = e := ⟨_, rfl⟩; obtain ⟨s2, hs2⟩ : ∃ t, actD p s k x = t := ⟨_, rfl⟩; rw [he2, hs2] at hac2; rw [he2] at hde
 have hl2 : s2.units.length = n := by
  have := actD_units p s k x; rw [hs2, HN.out] at this; exact this
 have HA2 := Hd hac2; have HDE := Hd hde; have HS2 := Hd hs2; have HE2 := Hd he2; have HL2 := Hd hl2; clear hac2 hde hs2 he2 hl2; clear HAC g
 go_upto_region 5 with (first
  | (go_at_call 53
     refine (HA2.out _ X1.out).mono ?_; rintro e w6 ⟨v, rfl, hv, hx, hown⟩; obtain ⟨a6, c6, hv6, _⟩ := hv.form; rw [HL2.out] at hv6 hown; subst hv6; have rbl := RB.out.lt; have rb2 := RB.out.ext hx; have x2 := X1.out.tr hx; clear c1 c2 c3 PB SB AB RB X1 hx HA2; have RB := Hd rb2; have X1 := Hd x2; have UV := Hd hv; have OWN := Hd hown; have RBL := Hd rbl
     clear rb2 x2 hv hown rbl)
  | (with_reducible refine wpList_allocA (t := 27) rfl rfl Tryz.zeroValue27 ?_
     rintro nb w7 hy1 hy2 hy3; have ln : w6.heap.size ≤ nb := hy3; clear hy3; have NB := Hd hy1; have Z := Hd hy2; have LN := Hd ln
     clear hy1 hy2 ln)
  | (with_reducible refine wpList_storeK (ty := 27) (cells := #[.int .i64 s2.drive, .bool s2.folder, .slice a6 n c6, .int .i64 s2.fresh]) rfl rfl NB.out ?_ ?_ ?_ ?_ ?_ ?_
     rfl; rfl; kernel_rfl; rfl; simp [Value.oneCell']; rintro w8 hb ho; have hx := Z.out.then_only ho (fun k (e : k = nb) => by rw [e]; exact LN.out); have rb2 := RB.out.ext hx; have x2 := X1.out.tr hx; have own2 : e2 = 0 → w8.ownsRow w5.heap.size 63 5 (.slice a6 n c6) n (uL s2.units) := fun h => owns_ext (OWN.out h) hx; have c5 := hb.cell; clear RB X1 hx ho Z LN NB UV OWN; have X1 := Hd x2; have RB := Hd rb2; have OWN := Hd own2
     clear x2 rb2 own2))
 by_cases h2 : e2 = 0
 {
 subst h2
 have hds : doS p s k x = s2 := by
  unfold doS; rw [if_pos HDE.out]; rw [← HS2.out]; unfold actD; rw [if_pos HE2.out]
 have uv := OWN.out rfl; have uvb : ∀ b, (Value.slice a6 n c6).ownBlock = some b → ¬ b = rb := fun b hb e => (by have := (uv.lt b hb).1; have := RBL.out; omega); have hn3 : n ≤ 1000000 := HL.out; have HDS := Hd hds; have UV := Hd uv; have UVB := Hd uvb; have HN3 := Hd hn3; clear hds uv uvb hn3
 go_wp2_with (
  (with_reducible refine wpList_storeK (ty := 27) (cells := #[.int .i64 s2.drive, .bool s2.folder, .slice a6 n c6, .int .i64 s2.fresh]) rfl rfl RB.out ?_ ?_ ?_ ?_ ?_ ?_); rfl; rfl; kernel_rfl; rfl; simp [Value.oneCell']; rintro w9 hb7 ho7; have k0 := hb7.cell; have x2 := X1.out.then_only ho7 (fun k (e : k = rb) => by rw [e]; exact LR.out); have uv2 := owns_only UV.out ho7 UVB.out; clear X1 RB ho7 hb7 UV; have X1 := Hd x2; have UV := Hd uv2
  clear x2 uv2)
 refine bodyPost_ret (v := .tuple #[.agg #[.int .i64 s2.drive, .bool s2.folder, .slice a6 n c6, .int .i64 s2.fresh], .int .i64 0]) (by simp [results, Tryz.results62, go_sem, k0]) rfl ?_; exact ⟨.slice a6 n c6, by rw [HDE.out, HDS.out] <;> rfl, by rw [HDS.out]; exact UnIn.of_owns (by rw [HL2.out]; exact UV.out) (by rw [HL2.out]; have := HN3.out; omega), X1.out, fun b hb => Nat.le_trans LW5.out (UV.out.lt b hb).1⟩
 }
 {
 have f1 : (e2 != 0) = true := (by simp [h2]); have hds : doS p s k x = zD := (by unfold doS; rw [if_neg (by rw [HDE.out]; exact h2)]); have HDS := Hd hds; clear hds
 go_wp2_with (first
  | (with_reducible refine wpList_storeK (ty := 27) (cells := #[.int .i64 0, .bool false, .slice none 0 0, .int .i64 0]) rfl rfl RB.out ?_ ?_ ?_ ?_ ?_ ?_
     rfl; rfl; kernel_rfl; rfl; simp [Value.oneCell']; rintro w7 hb7 ho7; have k0 := hb7.cell; have x2 := X1.out.then_only ho7 (fun k (e : k = rb) => by rw [e]; exact LR.out); clear X1 RB ho7 hb7; have X1 := Hd x2
     clear x2)
 )
 refine bodyPost_ret (v := .tuple #[sZ, .int .i64 e2]) (by simp [results, Tryz.results62, go_sem, k0, sZ]) rfl ?_; exact ⟨.slice none 0 0, by rw [HDE.out, HDS.out] <;> rfl, by rw [HDS.out]; exact UnIn.nil _, X1.out, fun b hb => by cases hb⟩
 }
 }
 {
 have f1 : (e1 != 0) = true := (by simp [h1]); have hde : doErr p s k x = e1 := (by unfold doErr; rw [HE1.out, if_pos h1]); have hds : doS p s k x = zD := (by unfold doS; rw [if_neg (by rw [hde]; exact h1)]); have HDE := Hd hde; have HDS := Hd hds; clear hde hds
 go_wp2_with (first
  | (with_reducible refine wpList_storeK (ty := 27) (cells := #[.int .i64 0, .bool false, .slice none 0 0, .int .i64 0]) rfl rfl RB.out ?_ ?_ ?_ ?_ ?_ ?_
     rfl; rfl; kernel_rfl; rfl; simp [Value.oneCell']; rintro w7 hb7 ho7; have k0 := hb7.cell; have x2 := X1.out.then_only ho7 (fun k (e : k = rb) => by rw [e]; exact LR.out); clear X1 RB ho7 hb7; have X1 := Hd x2
     clear x2)
 )
 refine bodyPost_ret (v := .tuple #[sZ, .int .i64 e1]) (by simp [results, Tryz.results62, go_sem, k0, sZ]) rfl ?_; exact ⟨.slice none 0 0, by rw [HDE.out, HDS.out] <;> rfl, by rw [HDS.out]; exact UnIn.nil _, X1.out, fun b hb => by cases hb⟩
 }
set_option maxRecDepth 100000 in
set_option maxHeartbeats 4000000 in
theorem rCode0_any (s : StD) (vu : Value) (w : World) (hu : UnIn w vu s.units) (hl : s.units.length ≤ 3) (hd : 0 ≤ s.drive ∧ s.drive ≤ 2) :
 Calls Tryz.prog 47 #[sV vu s] w fun e w' => e = .returned (.int .i64 (codeD s)) ∧ Ext w w' := by
 obtain ⟨a, c, rfl, Hu⟩ := hu.form; clear hu; have hce := codeD_eq s; obtain ⟨R, hR⟩ : ∃ R, codeD s = R := ⟨_, rfl⟩; rw [hR] at hce ⊢; unfold sV; have HCE := Hd hce; have HL := Hd hl; have HD := Hd hd; clear hce hl hd; clear hR
 go_enter Tryz.func47, Tryz.ntmps47
 go_upto_region 3 with (
  (with_reducible refine wpList_boxA (t := 27) (cs := #[.int .i64 s.drive, .bool s.folder, .slice a s.units.length c, .int .i64 s.fresh]) rfl rfl rfl ?_); rintro sb w1 hx1 hx2 hx3; have SB := Hd hx1; have X1 := Hd hx2; clear hx1 hx2
  clear hx3)
 go_loopw [5, 3, 4] (fun t5 t3 t4 wr => ∃ k : Nat, k ≤ s.units.length ∧ t5 = .int .i64 k ∧ t3 = .int .i64 (cN s.units k : Nat) ∧ t4 = .int .i64 (16 ^ k : Nat) ∧ Hid (Ext w1 wr)) (fun t5 _ _ _ => s.units.length - (intOf t5).toNat)
 case atStart => exact ⟨0, by omega, rfl, rfl, rfl, Below.refl _ _⟩
 case round =>
  obtain ⟨k, hk, rfl, rfl, rfl, HX⟩ := hrel; have hkb : k ≤ 3 := Nat.le_trans hk HL.out; have d := (SB.out.ext HX.out).cell
  by_cases hlt : k < s.units.length
  {
  obtain ⟨b, o, rfl, hc⟩ := UnIn.cells (Hu.out.ext (X1.out.tr HX.out)) (by omega); obtain ⟨d0, d1, d2, d3, d4⟩ := hc k hlt; have hs := cN_succ s.units k hlt; have hcl := cN_lt s.units k (by omega); obtain ⟨u, hu⟩ : ∃ u, s.units[k] = u := ⟨_, rfl⟩; rw [hu] at d0 d1 d2 d3 d4 hs; obtain ⟨uo, ut, uc, up, ui⟩ := u; dsimp only at *; obtain ⟨o0, ho0⟩ : ∃ n, 16 ^ k = n := ⟨_, rfl⟩; obtain ⟨c0, hc0⟩ : ∃ n, cN s.units k = n := ⟨_, rfl⟩
  have ho1 : o0 ≤ 256 := by
   have h3 := HL.out; have : k ≤ 2 := (by omega); rw [← ho0]; exact Nat.le_trans (Nat.pow_le_pow_right (by omega) this) (by decide)
  rw [ho0] at hs hcl ⊢; rw [hc0] at hs hcl ⊢; have hpw : 16 ^ (k + 1) = o0 * 16 := (by rw [Nat.pow_succ, ho0]); have i1 : (0:Int) ≤ (k:Int) := (by omega); have i2 : (k:Int) < (s.units.length:Int) := (by omega); have HS := Hd hs; have HPW := Hd hpw; clear hs hpw; clear hu hc ho0 hc0
  go_upto_region 7 with (fail)
  obtain ⟨wu, hwu⟩ : ∃ W, wr.alloc (.cells #[.bool uo, .bool ut, .bool uc, .bool up, .int .i64 ui] 63) = W := ⟨_, rfl⟩; have hx1 : Ext wr wu := (by rw [← hwu]; exact (newB wr _ _).2.1); have hsz : wr.heap.size + 1 = wu.heap.size := (by rw [← hwu]; simp only [World.alloc, Array.size_push]); rw [hwu, hsz]; have hnb := newB wu #[.bool uo, .bool ut, .bool uc, .bool up] 4; have lbk : Blk (wu.alloc (.cells #[.bool uo, .bool ut, .bool uc, .bool up] 4)) wu.heap.size #[.bool uo, .bool ut, .bool uc, .bool up] 4 := hnb.1; have hx2 := HX.out.tr (hx1.tr hnb.2.1); clear hnb d d0 d1 d2 d3 d4 hx1 hwu hsz; generalize wu.alloc (.cells #[.bool uo, .bool ut, .bool uc, .bool up] 4) = wl at *; obtain ⟨lb, hlb⟩ : ∃ n, wu.heap.size = n := ⟨_, rfl⟩; rw [hlb] at lbk ⊢; clear hlb; have LB := Hd lbk; have XL := Hd hx2; clear lbk hx2
  go_upto_region 8 with (fail)
  go_loopw [8, 3, 4] (fun t8 t3 t4 wq => ∃ q cc oo : Nat, q ≤ 4 ∧ t8 = .int .i64 q ∧ t3 = .int .i64 cc ∧ t4 = .int .i64 oo ∧ Hid (cc = c0 + o0 * bitsN ([uo, ut, uc, up].take q)) ∧ Hid (oo = o0 * 2 ^ q) ∧ Hid (Ext wl wq)) (fun t8 _ _ _ => 4 - (intOf t8).toNat)
  case atStart => exact ⟨0, c0, o0, by omega, rfl, rfl, rfl, (by show c0 = c0 + o0 * 0; omega), (by show o0 = o0 * 1; omega), Below.refl _ _⟩
  case round =>
   obtain ⟨q, cc, oo, hq, rfl, rfl, rfl, HCC, HOO, HY⟩ := hrel; have dl := (LB.out.ext HY.out).cell
   by_cases hlq : q < 4
   {
   have hst := bitsN_take [uo, ut, uc, up] q hlq; have hb1 := bitsN_lt ([uo, ut, uc, up].take q)
   have hat : (#[Value.bool uo, .bool ut, .bool uc, .bool up] : Array Value)[q]? = some (.bool [uo, ut, uc, up][q]) := by
    have : q = 0 ∨ q = 1 ∨ q = 2 ∨ q = 3 := by omega
    rcases this with rfl | rfl | rfl | rfl <;> rfl
   have dq := (dl q).trans hat; obtain ⟨f, hf⟩ : ∃ f, [uo, ut, uc, up][q] = f := ⟨_, rfl⟩; rw [hf] at dq hst; have hp : 2 ^ q ≤ 8 := Nat.le_trans (Nat.pow_le_pow_right (by omega) (show q ≤ 3 by omega)) (by decide); have hoo := HOO.out; have hoob : oo ≤ 256 * 8 := (by rw [hoo]; exact Nat.mul_le_mul ho1 hp); have hcc := HCC.out
   have hb2 : bitsN ([uo, ut, uc, up].take q) ≤ 8 := by
    have h5 : 2 ^ ([uo, ut, uc, up].take q).length ≤ 8 := Nat.le_trans (Nat.pow_le_pow_right (by omega) (show ([uo, ut, uc, up].take q).length ≤ 3 by rw [List.length_take]; omega)) (by decide); omega
   have hccb : cc ≤ 256 + 256 * 8 := (by rw [hcc]; exact Nat.add_le_add (by omega) (Nat.mul_le_mul ho1 hb2)); have hn1 : o0 * 2 ^ (q + 1) = oo + oo := (by rw [hoo, Nat.pow_succ]; rw [← Nat.mul_assoc]; omega); have hn2 : c0 + o0 * bitsN ([uo, ut, uc, up].take (q + 1)) = cc + oo * f.toNat := (by rw [hst, hcc, hoo, Nat.mul_add, Nat.mul_assoc, Nat.add_assoc]); have i3 : (0:Int) ≤ (q:Int) := (by omega); have i4 : (q:Int) < 4 := (by omega); clear dl hst hb1 hat hf hp hoo hcc hb2; have HN1 := Hd hn1; have HN2 := Hd hn2; clear hn1 hn2
   cases f
   {
   go_wp2
   go_roundw
   case rel => exact ⟨q + 1, cc, oo + oo, by omega, by go_num, rfl, by go_num, (by have h := HN2.out; simp only [Bool.toNat_false, Bool.toNat_true, Nat.mul_zero, Nat.add_zero, Nat.mul_one] at h; exact h.symm), HN1.out.symm, HY⟩
   case measure => simp [intOf] <;> omega
   }
   {
   go_wp2
   go_roundw
   case rel => exact ⟨q + 1, cc + oo, oo + oo, by omega, by go_num, by go_num, by go_num, (by have h := HN2.out; simp only [Bool.toNat_false, Bool.toNat_true, Nat.mul_zero, Nat.add_zero, Nat.mul_one] at h; exact h.symm), HN1.out.symm, HY⟩
   case measure => simp [intOf] <;> omega
   }
   }
   {
   have i4 : decide ((q:Int) < 4) = false := decide_eq_false (by omega); obtain rfl : q = 4 := (by omega); have hcc := HCC.out; have hoo := HOO.out
   have hb4 : bitsN ([uo, ut, uc, up].take 4) = uo.toNat + 2 * ut.toNat + 4 * uc.toNat + 8 * up.toNat := by
    simp only [List.take_succ_cons, List.take_zero, bitsN]; omega
   have hc5 : cN s.units (k + 1) = cc := (by rw [HS.out, hcc, hb4]); have ho5 : 16 ^ (k + 1) = oo := (by rw [HPW.out, hoo]); have xf := XL.out.tr HY.out; clear dl hcc hoo hb4; have HC5 := Hd hc5; have HO5 := Hd ho5; have XF := Hd xf; clear hc5 ho5 xf; go_wp2
   go_roundw
   case rel => exact ⟨k + 1, by omega, by go_num, by rw [HC5.out], by rw [HO5.out], XF⟩
   case measure => simp [intOf] <;> omega
   }
  }
  {
  have i2 : decide ((k:Int) < (s.units.length:Int)) = false := decide_eq_false (by omega); obtain rfl : k = s.units.length := (by omega); have hcl := cN_lt s.units s.units.length (by omega); have h4 : (16:Nat) ^ s.units.length ≤ 4096 := Nat.le_trans (Nat.pow_le_pow_right (by omega) HL.out) (by decide); obtain ⟨c0, hc0⟩ : ∃ n, cN s.units s.units.length = n := ⟨_, rfl⟩; have hc1 : c0 < 4096 := (by omega); have hce := HCE.out; rw [hc0] at hce ⊢; have hdr := HD.out; obtain ⟨fo, hfo⟩ : ∃ f, s.folder = f := ⟨_, rfl⟩; obtain ⟨dr, hdr2⟩ : ∃ f, s.drive = f := ⟨_, rfl⟩; rw [hfo, hdr2] at d hce; rw [hdr2] at hdr; have xw := X1.out.tr HX.out; have HCF := Hd hce; have XW := Hd xw; clear hce xw; clear hc0 hcl h4 hfo hdr2 HCE
  cases fo
  { go_wp2; go_ret; exact ⟨ret_int (by rw [HCF.out]; simp), XW.out⟩ }
  { go_wp2; go_ret; exact ⟨ret_int (by rw [HCF.out]; simp), XW.out⟩ }
  }
set_option maxRecDepth 100000 in
set_option maxHeartbeats 4000000 in
theorem rCode_any (p : PressD) (s : StD) (vj vu : Value) (w : World) (hj : Truths w vj p.jam) (hu : UnIn w vu s.units) (hl : s.units.length ≤ 1000000) :
 Calls Tryz.prog 60 #[pV vj p, sV vu s] w fun e w' => e = .returned (.tuple #[.int .i64 (coD p s), .int .i64 (stErr p s)]) ∧ Ext w w' := by
 have hst := fun w1 (k : Ext w w1) => rStarted_any p s vj vu w1 (Sl.ext hj k) (hu.ext k) hl; have hco := fun (h1 : s.units.length ≤ 3) (h2 : 0 ≤ s.drive ∧ s.drive ≤ 2) W (k : Ext w W) => rCode0_any s vu W (hu.ext k) h1 h2; obtain ⟨a, c, rfl, Hu⟩ := hu.form; obtain ⟨_, aj, cj, hvj, _⟩ := id hj; rw [List.length_map] at hvj; subst hvj; clear hu hl Hu; unfold pV sV at *; obtain ⟨e1, he1⟩ : ∃ e, stErr p s = e := ⟨_, rfl⟩; obtain ⟨R, hR⟩ : ∃ R, coD p s = R := ⟨_, rfl⟩; rw [he1] at hst; rw [he1, hR]; have HST := Hd hst; have HE1 := Hd he1; have HR := Hd hR; have HCO := Hd hco; clear hst he1 hR hco
 go_enter Tryz.func60, Tryz.ntmps60
 go_upto_region 2 with (first
  | (with_reducible refine wpList_boxA (t := 24) (cs := #[.slice aj p.jam.length cj, .int .i64 p.warm, .int .i64 p.tail, .int .i64 p.dirt]) rfl rfl rfl ?_
     rintro xb w1 hx1 hx2 hx3; have PB := Hd hx1; have X1 := Hd hx2; clear hx1 hx2
     clear hx3)
  | (with_reducible refine wpList_boxA (t := 27) (cs := #[.int .i64 s.drive, .bool s.folder, .slice a s.units.length c, .int .i64 s.fresh]) rfl rfl rfl ?_
     rintro sb w2 hy1 hy2 hy3; have c2 := (PB.out.ext hy2).cell; have c3 := hy1.cell; have x2 := X1.out.tr hy2; clear PB X1; have X1 := Hd x2; have SB := Hd hy1; clear x2 hy1
     clear hy3 hy2)
  | (go_at_call 46
     refine (HST.out _ X1.out).mono ?_; rintro e w3 ⟨rfl, hx⟩; have sb2 := SB.out.ext hx; have x2 := X1.out.tr hx; clear X1 hx SB c2 c3 HST; have c3 := sb2.cell; have X1 := Hd x2
     clear x2))
 by_cases h1 : e1 = 0
 {
 subst h1; obtain ⟨hpe, hsh, hsf⟩ := stErr_ok HE1.out; have hul : s.units.length ≤ 3 := (by rw [shaped_len hsh]; exact (pErr_len hpe).2); have hr2 : R = codeD s := (by rw [← HR.out]; unfold coD; rw [if_pos HE1.out]); have hc2 := HCO.out hul (shaped_nums hsh).1; rw [← hr2] at hc2; have HC2 := Hd hc2; clear hc2; clear hr2 hpe hsh hsf HCO
 go_wp2_with (
  go_at_call 47; refine (HC2.out _ X1.out).mono ?_; rintro e w5 ⟨rfl, hx⟩; have x2 := X1.out.tr hx; clear X1 hx; have X1 := Hd x2
  clear x2)
 go_ret2
 exact ⟨rfl, X1.out⟩
 }
 {
 have f1 : (e1 != 0) = true := (by simp [h1]); have hr2 : R = 0 := (by rw [← HR.out]; unfold coD; rw [if_neg (by rw [HE1.out]; exact h1)]); have HR2 := Hd hr2; clear hr2
 go_wp2_with (fail)
 go_ret2
 exact ⟨by rw [HR2.out] <;> rfl, X1.out⟩
 }
/-- An answer: a state whose towers lie in a row of the call's own, and an error. -/
def AnsO (w : World) (S : StD) (E : Int) (e : Ending) (w' : World) : Prop :=
 ∃ v, e = .returned (.tuple #[sV v S, .int .i64 E]) ∧ UnIn w' v S.units ∧ w'.ownsRow w.heap.size 82 5 v S.units.length (uL S.units) ∧ Ext w w'
def AnsO3 (w : World) (S : StD) (N E : Int) (e : Ending) (w' : World) : Prop :=
 ∃ v, e = .returned (.tuple #[sV v S, .int .i64 N, .int .i64 E]) ∧ UnIn w' v S.units ∧ w'.ownsRow w.heap.size 82 5 v S.units.length (uL S.units) ∧ Ext w w'
theorem begin_own (p : PressD) (vj : Value) (w : World) (hj : Truths w vj p.jam) :
 Calls Tryz.prog 26 #[pV vj p] w (AnsO w (beginS p) (pErr p)) :=
 (begin_any p vj w hj).mono fun e w' h => by
   rcases h with ⟨h0, rfl, hx⟩ | ⟨h0, v, rfl, ho, hx⟩
   · have e1 : beginS p = zD := by unfold beginS; rw [if_neg h0]
     exact ⟨.slice none 0 0, by rw [e1] <;> rfl, by rw [e1]; exact UnIn.nil _, by rw [e1]; exact World.ownsRow_nil _ _ _ _, hx⟩
   { have e1 : beginS p = beginD p := (by unfold beginS; rw [if_pos h0]); have e2 : (beginD p).units.length = p.jam.length := (by simp [beginD]); exact ⟨v, by rw [e1, h0], by rw [e1]; exact UnIn.of_owns (by rw [e2]; exact ho) (by rw [e2]; have := hj.1; rw [List.length_map] at this; exact this), by rw [e1, e2]; exact ho, hx⟩ }
theorem program_own (p : PressD) (s : StD) (l : List (Int × Int)) (vj vu vl : Value) (w : World) (hj : Truths w vj p.jam) (hu : UnIn w vu s.units) (hl : s.units.length ≤ 1000000) (hv : AcIn w vl l) (hk : ∀ a ∈ l, I64 a.1) :
 Calls Tryz.prog 27 #[pV vj p, sV vu s, vl] w (AnsO3 w (pgS p s l) (pgN p s l) (pgE p s l)) :=
 (program_any p s l vj vu vl w hj hu hl hv hk).mono fun e w' h => by
   rcases h with ⟨h0, rfl, hx⟩ | ⟨h0, v, rfl, ho, hx⟩
   { have e1 : pgS p s l = zD := (by unfold pgS; rw [if_pos h0]); have e2 : pgN p s l = 0 := (by unfold pgN; rw [if_pos h0]); have e3 : pgE p s l = pgErr p s l := (by unfold pgE; rw [if_pos h0]); exact ⟨.slice none 0 0, by rw [e1, e2, e3] <;> rfl, by rw [e1]; exact UnIn.nil _, by rw [e1]; exact World.ownsRow_nil _ _ _ _, hx⟩ }
   { have e1 : pgS p s l = (progR p s 0 l).1 := (by unfold pgS; rw [if_neg (by rw [h0]; simp)]); have e2 : pgN p s l = (progR p s 0 l).2.1 := (by unfold pgN; rw [if_neg (by rw [h0]; simp)]); have e3 : pgE p s l = (progR p s 0 l).2.2 := (by unfold pgE; rw [if_neg (by rw [h0]; simp)]); have e4 := progR_units p l s 0; exact ⟨v, by rw [e1, e2, e3], by rw [e1]; exact UnIn.of_owns (by rw [e4]; exact ho) (by rw [e4]; omega), by rw [e1, e4]; exact ho, hx⟩ }
theorem break_own (p : PressD) (s : StD) (x : Int) (vj vu : Value) (w : World) (hj : Truths w vj p.jam) (hu : UnIn w vu s.units) (hl : s.units.length ≤ 1000000) (hx : I64 x) :
 Calls Tryz.prog 29 #[pV vj p, sV vu s, .int .i64 x] w (AnsO3 w (bkS p s x) (bkN p s x) (brErr p s x)) :=
 (break_any p s x vj vu w hj hu hl hx).mono fun e w' h => by
   rcases h with ⟨h0, rfl, hx⟩ | ⟨h0, v, rfl, ho, hx⟩
   { have e1 : bkS p s x = zD := (by unfold bkS; rw [if_neg h0]); have e2 : bkN p s x = 0 := (by unfold bkN; rw [if_neg h0]); exact ⟨.slice none 0 0, by rw [e1, e2] <;> rfl, by rw [e1]; exact UnIn.nil _, by rw [e1]; exact World.ownsRow_nil _ _ _ _, hx⟩ }
   { have e1 : bkS p s x = brD s x.toNat := (by unfold bkS; rw [if_pos h0]); have e2 : bkN p s x = min p.tail s.fresh := (by unfold bkN; rw [if_pos h0]); exact ⟨v, by rw [e1, e2, h0], by rw [e1]; exact UnIn.of_owns (by rw [brD_len]; exact ho) (by rw [brD_len]; omega), by rw [e1, brD_len]; exact ho, hx⟩ }
theorem units_small {p : PressD} {s : StD} {k x : Int} (hl : s.units.length ≤ 1000000) : (doS p s k x).units.length ≤ 1000000 := by
 unfold doS
 split
 {
 unfold doD
 repeat' split
 all_goals (try exact hl)
 dsimp only; rw [List.length_set]; exact hl
 }
 · exact Nat.zero_le _
theorem do_own' (p : PressD) (s : StD) (k x : Int) (vj vu : Value) (w : World) (hj : Truths w vj p.jam) (hu : UnIn w vu s.units) (hl : s.units.length ≤ 1000000) (hk : I64 k) :
 Calls Tryz.prog 61 #[pV vj p, sV vu s, .agg #[.int .i64 k, .int .i64 x]] w (AnsO w (doS p s k x) (doErr p s k x)) :=
 (do_own p s k x vj vu w hj hu hl hk).mono fun e w' ⟨v, h1, h2, h3⟩ => ⟨v, h1, UnIn.of_owns h2 (by have := units_small (p := p) (k := k) (x := x) hl; omega), h2, h3⟩
theorem UnIn.only0 {w w' : World} {v : Value} {us : List UnitD} {S : Nat → Prop} (h : UnIn w v us) (k : Only S w w') (hs : 0 < us.length → ∀ b, v.ownBlock = some b → ¬ S b) : UnIn w' v us := by
 rcases Nat.eq_zero_or_pos us.length with h0 | h0
 · obtain ⟨h1, a, c, h2, h3, _⟩ := h
   exact ⟨h1, a, c, h2, h3, fun h => by omega⟩
 · exact h.only k (hs h0)
theorem uL_bool (us : List UnitD) (j : Nat) (h : j < us.length) : ∃ b, (uL us)[j * 5 + 2]? = some (.bool b) := ⟨us[j].cl, by rw [uL_get us j 2 h (by omega)]; rfl⟩
theorem bkS_small {p : PressD} {s : StD} {x : Int} (hl : s.units.length ≤ 1000000) : (bkS p s x).units.length ≤ 1000000 := by
 unfold bkS
 split
 · rw [brD_len]; exact hl
 · exact Nat.zero_le _
theorem and_i64 (a k : Nat) (ha : a < 9223372036854775808) (hk : k < 16) : bits .and .i64 (a : Int) (k : Int) = ((a &&& k : Nat) : Int) := by
 have hx : a &&& k ≤ k := Nat.and_le_right
 have h1 : (BitVec.ofInt 64 (a : Int)).toNat = a := by
  rw [BitVec.ofInt_natCast, BitVec.toNat_ofNat]; exact Nat.mod_eq_of_lt (by omega)
 have h2 : (BitVec.ofInt 64 (k : Int)).toNat = k := by
  rw [BitVec.ofInt_natCast, BitVec.toNat_ofNat]; exact Nat.mod_eq_of_lt (by omega)
 show IntKind.i64.wrap ((BitVec.ofInt 64 (a : Int) &&& BitVec.ofInt 64 (k : Int)).toNat : Int) = _; rw [BitVec.toNat_and, h1, h2]; exact i64_eq _ (by omega)
theorem and_pow (a i : Nat) : a &&& 2 ^ i = 2 ^ i * (a / 2 ^ i % 2) := by
 apply Nat.eq_of_testBit_eq; intro j; rw [Nat.testBit_and, Nat.testBit_two_pow]; have h2 : a / 2 ^ i % 2 = (a.testBit i).toNat := (by rw [Nat.testBit_eq_decide_div_mod_eq]; have := Nat.mod_two_eq_zero_or_one (a / 2 ^ i); rcases this with h | h <;> rw [h] <;> rfl); rw [h2]
 by_cases hij : i = j
 {
 subst hij
 cases h : a.testBit i
 · simp
 · simp [Nat.testBit_two_pow_self]
 }
 {
 cases h : a.testBit i
 · simp [hij]
 · simp [hij, Nat.testBit_two_pow]
 }
theorem bit_is (a k : Nat) (i : Nat) (ha : a < 9223372036854775808) (hi : i < 4) (hk : k = 2 ^ i) : (bits .and .i64 (a : Int) (k : Int) == (k : Int)) = (a / 2 ^ i % 2 == 1) := by
 have hk16 : k < 16 := by
  have : i = 0 ∨ i = 1 ∨ i = 2 ∨ i = 3 := by omega
  rcases this with rfl | rfl | rfl | rfl <;> omega
 rw [and_i64 a k ha hk16, hk, and_pow]; have hp : 0 < 2 ^ i := Nat.pow_pos (by decide); generalize 2 ^ i = q at *
 rcases Nat.mod_two_eq_zero_or_one (a / q) with h | h
 { rw [h, Nat.mul_zero]; have : ¬ (((0 : Nat) : Int) = (q : Int)) := (by omega); simp [this]; omega }
 · rw [h, Nat.mul_one]
   simp
section
variable {P : Program} {w : World} {ops : Array Oper} {rest : List Oper} {o : Oper} {a : Act} {Q : Exit → Act → World → Prop} {K : Act → World → Prop} {E : Prop}
theorem step_makeN {t e : TypeId} {z : Value} {size bytes : Nat} (T : SliceT P t e z size bytes) (hgd : o.guard = none) {x y : Operand} (ho : o.op = .makeSlice t x y) {n : Nat}
 (hx : a.eval x = .int .i64 n) (hy : a.eval y = .int .i64 n) (hN : bytes * n ≤ 140737488355328)
 (h : ∀ w1, w1.ownsRow w.heap.size e size (.slice (some ⟨w.heap.size, 0, none⟩) n n) n (madeCells z.cells (n * size)).toList → Ext w w1 → K (a.put o.dst (.slice (some ⟨w.heap.size, 0, none⟩) n n)) w1) :
 if Region.wanted o (yielded ops a.tmps) = true then Oper.wp P o a w K Q else E := by
 have hw : Region.wanted o (yielded ops a.tmps) = true := (by simp [Region.wanted, hgd]); rw [if_pos hw]; obtain ⟨i, hi, hp⟩ := Option.map_eq_some_iff.1 T.info; simp only [Prod.mk.injEq] at hp; obtain ⟨hz, hsz, hby⟩ := hp
 have hm : n ≤ maxLen := by
  have := Nat.le_mul_of_pos_left n T.byt; unfold maxLen; omega
 obtain ⟨w', hrun, r1, r2⟩ := run_make_full (P := P) w w.heap.size t e i z size T.ht hi hz hsz .i64 .i64 n (by rw [hby]; omega) hm (Nat.le_refl _); unfold Oper.wp; simp [execOp, ho, hx, hy, hrun, Result.andThen]; exact h w' r1 (Ext.only (only_grown (v := .slice none 0 0) r2) (fun b hb => by cases hb))
theorem step_boxA (hgd : o.guard = none) {t : TypeId} {x : Operand} (ho : o.op = .box t x) {v : Value} (hx : a.eval x = v) {cs : Array Value} (hv : v.cells = cs)
 (h : ∀ b w1, Blk w1 b cs t → Ext w w1 → w.heap.size ≤ b → K (a.put o.dst (.pointer (some ⟨b, 0, none⟩))) w1) :
 if Region.wanted o (yielded ops a.tmps) = true then Oper.wp P o a w K Q else E := by
 have hw : Region.wanted o (yielded ops a.tmps) = true := (by simp [Region.wanted, hgd]); rw [if_pos hw]; subst hv
 have hr : (execOp a.eval o).run P w = .ok (.value (.pointer (some ⟨w.heap.size, 0, none⟩))) (w.alloc (.cells v.cells t)) := by
  unfold execOp; rw [ho]; simp only [hx]; rfl
 unfold Oper.wp; rw [hr]; exact h _ _ (newB w v.cells t).1 (newB w v.cells t).2.1 (newB w v.cells t).2.2
end
theorem MOw.setRow {B : Nat} {w w' : World} {mb pb ub c : Nat} {p : PressD} {s : StD} {vj : Value} (h : MOw B w mb pb ub c p s vj) {us : List UnitD} (hl : us.length = s.units.length)
 (ho : w'.ownsRow B 82 5 (.slice (some ⟨ub, 0, none⟩) s.units.length c) s.units.length (uL us)) (k : Only (fun b => b = ub) w w') : MOw B w' mb pb ub c p { s with units := us } vj := by
 rcases ho.2 with ⟨hv, _⟩ | ⟨g, cap, cur, hv, _, hb, h1, h2, h3, h4⟩
 · cases hv
 cases hv
 exact ⟨by dsimp only; rw [hl]; exact h.bm.only k (fun e => h.mu e), h.bp.only k (fun e => h.pu e), ⟨cur, hb, by dsimp only; rw [hl]; exact ⟨h1, h2, h3⟩, by dsimp only; rw [hl]; exact h4⟩, Sl.only h.jm k (fun b hb e => by have := h.jl b hb; have := h.lu; omega), h.jl, h.lm, h.lp, h.lu⟩
/-- k towers of a number are written. -/
def decK (n c k : Nat) : StD := ⟨((c % 3 : Nat) : Int), c / 3 % 2 == 1, (List.range n).map fun j => if j < k then decU (c / 6 / 16 ^ j) else ⟨false, false, false, false, 0⟩, 0⟩
theorem decK_len (n c k : Nat) : (decK n c k).units.length = n := by simp [decK]
theorem decK_zero (n c : Nat) : (decK n c 0).units = List.replicate n ⟨false, false, false, false, 0⟩ := by
 unfold decK; dsimp only; apply List.ext_getElem
 · simp
 · intro i h1 h2; simp
theorem decK_end (n c : Nat) : decK n c n = decD n c := by
 unfold decK decD
 congr 1
 exact List.map_congr_left fun j hj => if_pos (List.mem_range.1 hj)
theorem decK_set (n c k : Nat) (h : k < n) : (decK n c k).units.set k (decU (c / 6 / 16 ^ k)) = (decK n c (k + 1)).units := by
 unfold decK; dsimp only; apply List.ext_getElem
 · simp
 {
 intro i h1 h2; rw [List.getElem_set]; simp only [List.getElem_map, List.getElem_range]
 by_cases hi : k = i
 · rw [if_pos hi, if_pos (by omega), hi]
 {
 rw [if_neg hi]
 by_cases h : i < k
 · rw [if_pos h, if_pos (by omega)]
 · rw [if_neg h, if_neg (by omega)]
 }
 }
set_option maxRecDepth 100000 in
set_option maxHeartbeats 4000000 in
theorem decoded_any {B mb pb ub c : Nat} {p : PressD} {s : StD} {vj : Value} (w : World) (h : MOw B w mb pb ub c p s vj) (hl : s.units.length ≤ 3) (h1 : 1 ≤ s.units.length) (x : Int) (hx : I64 x) :
 Calls Tryz.prog 48 #[.pointer (some ⟨mb, 0, none⟩), .int .i64 x] w fun e w' =>
  (x < 0 ∧ e = .returned (.tuple #[.pointer none, .bool false]) ∧ Ext w w') ∨
  (∃ k : Nat, x = k ∧ ∃ m u, e = .returned (.tuple #[.pointer (some ⟨m, 0, none⟩), .bool (decOk s.units.length k)]) ∧ MOw B w' m pb u s.units.length p (decD s.units.length k) vj ∧ Ext w w') := by
 obtain ⟨n, hn⟩ : ∃ n, s.units.length = n := ⟨_, rfl⟩; rw [hn] at hl h1 ⊢; have H0 := Hd h; have HN := Hd hn; have HX := Hd hx; clear h hn hx
 go_enter Tryz.func48, Tryz.ntmps48
 by_cases hx0 : x < 0
 {
 have i1 : x < 0 := hx0; go_wp2
 go_ret2
 exact .inl ⟨hx0, rfl, Below.refl _ _⟩
 }
 {
 have i1 : decide (x < 0) = false := decide_eq_false hx0; obtain ⟨k, rfl⟩ : ∃ k : Nat, x = k := ⟨x.toNat, by omega⟩; have hk := HX.out; unfold I64 at hk; have hkb : k < 9223372036854775808 := (by omega); clear hk hx0; have t1 : (k:Int).tmod 3 = ((k % 3 : Nat) : Int) := by rw [Int.tmod_eq_emod_of_nonneg (by omega)]; omega
 have t2 : ((IntKind.i64.wrap ((k:Int) / 3)).tmod 2 == 1) = (k / 3 % 2 == 1) := by
  have e : (IntKind.i64.wrap ((k:Int) / 3)).tmod 2 = ((k / 3 % 2 : Nat) : Int) := by
   rw [i64_eq _ (by omega), Int.tmod_eq_emod_of_nonneg (by omega)]; omega
  rw [e]
  rcases Nat.mod_two_eq_zero_or_one (k / 3) with h | h <;> rw [h] <;> rfl
 obtain ⟨b2, hb2⟩ : ∃ b, (k / 3 % 2 == 1) = b := ⟨_, rfl⟩; obtain ⟨z1, hz1⟩ : ∃ z : Int, ((k % 3 : Nat) : Int) = z := ⟨_, rfl⟩; obtain ⟨z3, hz3⟩ : ∃ z : Int, IntKind.i64.wrap ((k:Int) / 3) = z := ⟨_, rfl⟩; rw [hz1] at t1; rw [hb2, hz3] at t2; obtain ⟨z4, hz4⟩ : ∃ z : Int, z3.tmod 2 = z := ⟨_, rfl⟩; rw [hz4] at t2; have T1 := Hd t1; have T2 := Hd t2; have T3 := Hd hz3; have T4 := Hd hz4; have HB2 := Hd hb2; have HZ1 := Hd hz1; clear t1 t2 hz3 hz4 hb2 hz1
 go_upto_region 3 with (fail)
 have hbm := H0.out.bm; rw [HN.out] at hbm; have xd : Ext w w.drew := (Below.refl _ w).drew; refine wp_region_K (fun wx => ∀ j, wx.cell? ⟨mb, j, none⟩ = (#[.pointer (some ⟨pb, 0, none⟩), .int .i64 s.drive, .bool s.folder, .slice (some ⟨ub, 0, none⟩) n c, .int .i64 s.fresh] : Array Value)[j]?) 21 (by kernel_rfl) (hbm.ext xd).cell (fun kh => ?_); generalize w.drew = wA at *; have XC := Hd xd; have BM := Hd hbm; clear xd hbm; refine kX 0 kh ?_; simp only [kS]; refine kX 1 kh ?_; simp only [kS]; refine kX 2 kh ?_; simp only [kS]; refine kX 3 kh ?_; simp only [kS]; refine kX 4 kh ?_; simp only [kS]; refine kX 5 kh ?_; simp only [kS]; refine kX 6 kh ?_; simp only [kS]; refine kX 7 kh ?_; simp only [kS]; refine kX 8 kh ?_; simp only [kS]; refine kX 9 kh ?_; simp only [kS]; refine kX 10 kh ?_; simp only [kS]; refine kX 11 kh ?_; simp only [kS]; refine kX 12 kh ?_; simp only [kS]; refine kX 13 kh ?_; simp only [kS]; refine kX 14 kh ?_; simp only [kS]; refine kX 15 kh ?_; simp only [kS]; rw [T1.out, T3.out, T4.out, T2.out]; refine rK [16] ?_; refine xK 16 (fun K hK => ?_) ?_
 {
 refine step_makeN (n := n) tUnits rfl rfl rfl rfl (by omega) ?_; intro wB hown hx; have hmu : (madeCells (Value.agg #[.bool false, .bool false, .bool false, .bool false, .int .i64 0]).cells (n * 5)).toList = uL (List.replicate n ⟨false, false, false, false, 0⟩) := made_units n ⟨h1, hl⟩; rw [hmu] at hown; obtain ⟨u2, hu2⟩ : ∃ u, wA.heap.size = u := ⟨_, rfl⟩; have lu2 : w.heap.size ≤ u2 := (by rw [← hu2]; exact XC.out.size); rw [hu2] at hown ⊢; replace XC := Hd (XC.out.tr hx); clear hx hmu hu2; have OW := Hd hown; have LU := Hd lu2; clear hown lu2; refine kG hK ((BM.out.ext XC.out).cell) fun kh => ?_; (try simp only [kS]); refine kX 17 kh ?_; simp only [kS]; refine kX 18 kh ?_; simp only [kS]; refine rK [19] ?_; refine xK 19 (fun K hK => ?_) ?_
 {
 refine step_boxA (cs := #[.pointer (some ⟨pb, 0, none⟩), .int .i64 z1, .bool b2, .slice (some ⟨u2, 0, none⟩) n n, .int .i64 0]) rfl rfl rfl rfl ?_; intro m wC hb hx hsz; have ow := owns_ext OW.out hx; have lm : w.heap.size ≤ m := Nat.le_trans XC.out.size hsz; replace XC := Hd (XC.out.tr hx); clear hx hsz OW; have MB := Hd hb; have OW := Hd ow; have LM := Hd lm; clear hb ow lm; refine kG hK ((BM.out.ext XC.out).cell) fun kh => ?_; (try simp only [kS]); refine kX 20 kh ?_; simp only [kS]; refine dK ?_ _
 have hm0 : MOw B wC m pb u2 n p (decK n k 0) vj := by
  refine ⟨?_, H0.out.bp.ext XC.out, ?_, Sl.ext H0.out.jm XC.out, H0.out.jl, ?_, H0.out.lp, ?_⟩
  · show Blk wC m #[_, .int .i64 ((k % 3 : Nat) : Int), .bool (k / 3 % 2 == 1), .slice (some ⟨u2, 0, none⟩) (decK n k 0).units.length n, .int .i64 0] _
    rw [decK_len, HB2.out, HZ1.out]; exact MB.out
  {
  rw [decK_zero, List.length_replicate]
  rcases OW.out.2 with ⟨hv, _⟩ | ⟨g, cap, cur, hv, _, hb, q1, q2, q3, q4⟩
  · cases hv
  · cases hv
    exact ⟨cur, hb, ⟨q1, q2, q3⟩, q4⟩
  }
  · have := H0.out.lm; have := H0.out.bm.lt; have := LM.out; omega
  · have := H0.out.lm; have := H0.out.bm.lt; have := LU.out; omega
 have d := MB.out.cell; clear OW BM MB; have M0 := Hd hm0; clear hm0
 go_upto_region 6 with (fail)
 go_loopw [7, 39] (fun t7 t39 wr => ∃ q : Nat, q ≤ n ∧ t7 = .int .i64 ((k / 6 / 16 ^ q : Nat) : Int) ∧ t39 = .int .i64 q ∧ Hid (MOw B wr m pb u2 n p (decK n k q) vj) ∧ Hid (Ext w wr)) (fun _ t39 _ => n - (intOf t39).toNat)
 case atStart => exact ⟨0, Nat.zero_le _, by simp, rfl, M0, XC⟩
 case round =>
  clear M0 XC d; obtain ⟨q, hq, rfl, rfl, HM, HXW⟩ := hrel; have d := HM.out.bm.cell; rw [decK_len] at d; obtain ⟨N, hN⟩ : ∃ N, k / 6 / 16 ^ q = N := ⟨_, rfl⟩; have hNb : N < 9223372036854775808 := (by rw [← hN]; exact Nat.lt_of_le_of_lt (Nat.div_le_self _ _) (by omega)); rw [hN]
  by_cases hlt : q < n
  {
  have hun : (⟨bits .and .i64 (N:Int) 1 == 1, bits .and .i64 (N:Int) 2 == 2, bits .and .i64 (N:Int) 4 == 4, bits .and .i64 (N:Int) 8 == 8, 0⟩ : UnitD) = decU N := by
   have a1 : (bits .and .i64 (N:Int) 1 == 1) = (N / 2 ^ 0 % 2 == 1) := bit_is N 1 0 hNb (by omega) rfl; have a2 : (bits .and .i64 (N:Int) 2 == 2) = (N / 2 ^ 1 % 2 == 1) := bit_is N 2 1 hNb (by omega) rfl; have a3 : (bits .and .i64 (N:Int) 4 == 4) = (N / 2 ^ 2 % 2 == 1) := bit_is N 4 2 hNb (by omega) rfl; have a4 : (bits .and .i64 (N:Int) 8 == 8) = (N / 2 ^ 3 % 2 == 1) := bit_is N 8 3 hNb (by omega) rfl; rw [a1, a2, a3, a4]; unfold decU; simp
  have hst := decK_set n k q hlt; rw [hN] at hst; have hnx : k / 6 / 16 ^ (q + 1) = N / 16 := (by rw [Nat.pow_succ, ← Nat.div_div_eq_div_mul, hN]); obtain ⟨cs, hbk, hroom, _⟩ := HM.out.bu; rw [decK_len] at hroom; have hrow := HM.out.own; rw [decK_len] at hrow; have i2 : (0:Int) ≤ (q:Int) := (by omega); have i3 : (q:Int) < (n:Int) := (by omega); have HUN := Hd hun; have HST := Hd hst; have HNX := Hd hnx; have BK := Hd hbk; have ROOM := Hd hroom; have ROW := Hd hrow; clear hun hst hnx hbk hroom hrow
  go_wp2_with (
   with_reducible refine wpList_setU (B := B) (b := u2) (i := q) (n := n) (c := n) (us := (decK n k q).units) (u := ⟨bits .and .i64 (N:Int) 1 == 1, bits .and .i64 (N:Int) 2 == 2, bits .and .i64 (N:Int) 4 == 4, bits .and .i64 (N:Int) 8 == 8, 0⟩) rfl rfl ROW.out BK.out ?_ ?_ ?_ ?_ ?_ ?_ ?_
   · exact decK_len _ _ _
   · assumption
   · have := ROOM.out; omega
   rfl; rfl; kernel_rfl; rintro wS hrS hoS; rw [HUN.out, HST.out] at hrS; have hm5 := MOw.setRow (us := (decK n k (q + 1)).units) HM.out (by rw [decK_len, decK_len]) (by rw [decK_len]; exact hrS) hoS; have hm6 : MOw B wS m pb u2 n p (decK n k (q + 1)) vj := hm5; have hx := HXW.out.then_only hoS (fun b (e : b = u2) => by rw [e]; exact LU.out); clear HM HXW hm5 hrS hoS d; have HM := Hd hm6; have HXW := Hd hx
   clear hm6 hx)
  go_roundw
  case rel => exact ⟨q + 1, by omega, by rw [HNX.out]; simp, by go_num, HM, HXW⟩
  case measure => simp [intOf] <;> omega
  }
  {
  have i3 : decide ((q:Int) < (n:Int)) = false := decide_eq_false (by omega); obtain rfl : n = q := (by omega); have hme := HM.out; rw [decK_end] at hme; have hsf := fun W (h : Ext wr W) => mSafe m pb p (decD n k) vj _ W ((hme.ext h).st (by rw [(decD_fit n k).len]; omega)); have hok : decOk n k = ((N == 0) && safeD (decD n k)) := (by unfold decOk; rw [hN]); clear HM; have HM := Hd hme; have HSF := Hd hsf; have HOK := Hd hok; clear hme hsf hok
  by_cases hz : N = 0
  {
  have f1 : ((N:Int) == 0) = true := (by simp [hz]); have hok2 : decOk n k = safeD (decD n k) := (by rw [HOK.out, hz]; simp); clear hz; have HOK2 := Hd hok2; clear hok2
  go_wp2_with (
   go_at_call 70; refine (HSF.out _ (Below.refl _ _)).mono ?_; rintro e wT ⟨rfl, hx⟩; have x2 := HXW.out.tr hx; have hm6 := HM.out.ext hx; clear HXW HM hx d; have HXW := Hd x2; have HM := Hd hm6
   clear x2 hm6)
  go_ret2
  exact .inr ⟨k, rfl, m, u2, by rw [HOK2.out] <;> rfl, HM.out, HXW.out⟩
  }
  {
  have f1 : ((N:Int) == 0) = false := (by simp [hz]); have hok2 : decOk n k = false := (by rw [HOK.out]; simp [hz]); clear hz; have HOK2 := Hd hok2; clear hok2; go_wp2
  go_ret2
  exact .inr ⟨k, rfl, m, u2, by rw [HOK2.out] <;> rfl, HM.out, HXW.out⟩
  }
  }
 }
 exact nK
 }
 exact nK
 }
end Go.Proofs.YtojobdffnnibaaaGreat