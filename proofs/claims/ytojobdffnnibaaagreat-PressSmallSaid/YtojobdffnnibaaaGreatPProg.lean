/- press.Program. -/
import Derived.Test.YtojobdffnnibaaaGreatPAct2
import Derived.Test.YtojobdffnnibaaaGreatJ9
import Derived.Test.YtojobdffnnibaaaGreatJ1
namespace Go.Proofs.YtojobdffnnibaaaGreat
open Go.RowKit
set_option linter.unusedVariables false
set_option linter.unusedSimpArgs false
/-- What actions lead to: the state, how many were carried out, the error of the next one. -/
def progR (p : PressD) : StD → Nat → List (Int × Int) → StD × Nat × Int
 | s, i, [] => (s, i, 0)
 | s, i, a :: l => if actErr p s a.1 a.2 = 0 then progR p (actD p s a.1 a.2) (i + 1) l else (s, i, actErr p s a.1 a.2)
def pgErr (p : PressD) (s : StD) (l : List (Int × Int)) : Int := if stErr p s ≠ 0 then stErr p s else if 200 < l.length then 2 else 0
theorem progR_ok {p : PressD} {s : StD} {i : Nat} {a : Int × Int} {l : List (Int × Int)} (h : actErr p s a.1 a.2 = 0) : progR p s i (a :: l) = progR p (actD p s a.1 a.2) (i + 1) l := by
 conv => lhs; unfold progR
 rw [if_pos h]
theorem progR_no {p : PressD} {s : StD} {i : Nat} {a : Int × Int} {l : List (Int × Int)} (h : actErr p s a.1 a.2 ≠ 0) : progR p s i (a :: l) = (s, i, actErr p s a.1 a.2) := by
 conv => lhs; unfold progR
 rw [if_neg h]
theorem progR_nil {p : PressD} {s : StD} {i : Nat} : progR p s i [] = (s, i, 0) := rfl
theorem actD_units (p : PressD) (s : StD) (k x : Int) : (actD p s k x).units.length = s.units.length := by
 unfold actD
 split
 {
 unfold doD
 repeat' split
 all_goals (try rfl)
 dsimp only; rw [List.length_set]
 }
 rfl
theorem progR_units (p : PressD) : ∀ (l : List (Int × Int)) (s : StD) (i : Nat), (progR p s i l).1.units.length = s.units.length
 | [], _, _ => rfl
 | a :: l, s, i => by
   unfold progR
   split
   · rw [progR_units p l, actD_units]
   rfl
/-- A slice of actions. -/
def AcIn (w : World) (v : Value) (l : List (Int × Int)) : Prop :=
 l.length ≤ 9223372036854775807 ∧ ∃ a c, v = .slice a l.length c ∧ (0 < l.length → ∃ b o, a = some ⟨b, o, none⟩ ∧ ∀ i (h : i < l.length), w.cell? ⟨b, o + i * 2, none⟩ = some (.int .i64 l[i].1) ∧ w.cell? ⟨b, o + i * 2 + 1, none⟩ = some (.int .i64 l[i].2))
theorem AcIn.ext {w w' : World} {v : Value} {l : List (Int × Int)} (h : AcIn w v l) (k : Ext w w') : AcIn w' v l := by
 obtain ⟨h0, a, c, h1, h2⟩ := h; refine ⟨h0, a, c, h1, fun h3 => ?_⟩; obtain ⟨b, o, h4, h5⟩ := h2 h3; exact ⟨b, o, h4, fun i hi => ⟨k.cellSome (h5 i hi).1, k.cellSome (h5 i hi).2⟩⟩
theorem AcIn.of_owns {w : World} {B : Nat} {e : TypeId} {v : Value} {l : List (Int × Int)} (h : w.ownsRow B e 2 v l.length (acL l)) (hl : l.length ≤ 1000000) : AcIn w v l := by
 refine ⟨by omega, ?_⟩
 rcases Nat.eq_zero_or_pos l.length with h0 | h0
 · obtain ⟨a, c, hv⟩ := owns_form h
   exact ⟨a, c, hv, fun h => by omega⟩
 {
 obtain ⟨g, c, hv, hc⟩ := owns_pos h h0; refine ⟨_, c, hv, fun _ => ⟨g, 0, rfl, fun i hi => ⟨?_, ?_⟩⟩⟩
 { have := acL_get l i 0 hi (by omega); rw [Nat.add_zero] at this; rw [Nat.zero_add]; exact hc _ _ (by rw [this]; rfl) }
 { have := acL_get l i 1 hi (by omega); rw [Nat.zero_add]; exact hc _ _ (by rw [this]; rfl) }
 }
theorem AcIn.form {w : World} {v : Value} {l : List (Int × Int)} (h : AcIn w v l) : ∃ a c, v = .slice a l.length c ∧ Hid (0 < l.length → ∃ b o, a = some ⟨b, o, none⟩ ∧ ∀ i (h : i < l.length), w.cell? ⟨b, o + i * 2, none⟩ = some (.int .i64 l[i].1) ∧ w.cell? ⟨b, o + i * 2 + 1, none⟩ = some (.int .i64 l[i].2)) := by
 obtain ⟨_, a, c, h1, h2⟩ := h; exact ⟨a, c, h1, h2⟩
/-- What Program does. -/
def ProgPost (w : World) (p : PressD) (s : StD) (l : List (Int × Int)) (e : Ending) (w' : World) : Prop :=
 (pgErr p s l ≠ 0 ∧ e = .returned (.tuple #[sZ, .int .i64 0, .int .i64 (pgErr p s l)]) ∧ Ext w w') ∨
 (pgErr p s l = 0 ∧ ∃ vu, e = .returned (.tuple #[sV vu (progR p s 0 l).1, .int .i64 (progR p s 0 l).2.1, .int .i64 (progR p s 0 l).2.2]) ∧ w'.ownsRow w.heap.size 82 5 vu s.units.length (uL (progR p s 0 l).1.units) ∧ Ext w w')
set_option maxRecDepth 100000 in
set_option maxHeartbeats 4000000 in
theorem program_any (p : PressD) (s : StD) (l : List (Int × Int)) (vj vu vl : Value) (w : World) (hj : Truths w vj p.jam) (hu : UnIn w vu s.units) (hl : s.units.length ≤ 1000000) (hv : AcIn w vl l) (hk : ∀ a ∈ l, I64 a.1) :
 Calls Tryz.prog 27 #[pV vj p, sV vu s, vl] w (ProgPost w p s l) := by
 have hst := fun w1 (k : Ext w w1) => start_any p s vj vu w1 (Sl.ext hj k) (hu.ext k) hl; obtain ⟨a, c, rfl, Hu⟩ := hu.form; obtain ⟨_, aj, cj, hvj, _⟩ := id hj; rw [List.length_map] at hvj; subst hvj; have hlm := hv.1; obtain ⟨al, cl, rfl, HV⟩ := hv.form; have HK := Hd hk; clear hk; clear hu hl hv Hu; unfold pV sV at *; obtain ⟨e1, he1⟩ : ∃ e, stErr p s = e := ⟨_, rfl⟩
 by_cases h1 : e1 = 0
 {
 subst h1; have hs := fun w1 (k : Ext w w1) => (hst w1 k).mono fun e w' (h : StartPost w1 p s _ e w') => (h.resolve_left fun h => h.1 he1).2; obtain ⟨hpe, hsh, hsf⟩ := stErr_ok he1; have huj := shaped_len hsh; have hul : s.units.length ≤ 3 := (by rw [huj]; exact (pErr_len hpe).2); have hpg : pgErr p s l = if 200 < l.length then 2 else 0 := (by unfold pgErr; rw [if_neg (by rw [he1]; simp)]); have HS := Hd hs; have HUL := Hd hul; have HUJ := Hd huj; have HPG := Hd hpg; clear hs hul huj hpg; clear hst he1 hpe hsh hsf
 go_enter Tryz.func27, Tryz.ntmps27
 go_upto_region 1 with (first
  | (with_reducible refine wpList_boxA (t := 34) (cs := #[.slice aj p.jam.length cj, .int .i64 p.warm, .int .i64 p.tail, .int .i64 p.dirt]) rfl rfl rfl ?_
     rintro xb w1 hx1 hx2 hx3; have PB := Hd hx1; have X1 := Hd hx2; clear hx1 hx2
     clear hx3)
  | (with_reducible refine wpList_boxA (t := 38) (cs := #[.int .i64 s.drive, .bool s.folder, .slice a s.units.length c, .int .i64 s.fresh]) rfl rfl rfl ?_
     rintro sb w2 hy1 hy2 hy3; have pb2 := PB.out.ext hy2; have x2 := X1.out.tr hy2; clear PB X1; have SB := Hd hy1; have PB := Hd pb2; have X1 := Hd x2; clear hy1 pb2 x2
     clear hy3 hy2)
  | (with_reducible refine wpList_allocA (t := 38) rfl rfl Tryz.zeroValue38 ?_
     rintro rb w2 hy1 hy2 hy3; have c2 := (PB.out.ext hy2).cell; have c3 := (SB.out.ext hy2).cell; have x2 := X1.out.tr hy2; have l2 : w.heap.size ≤ rb := Nat.le_trans X1.out.size hy3; clear PB X1 SB; have RB := Hd hy1; have X1 := Hd x2; have LR := Hd l2; clear hy1 x2 l2
     clear hy3 hy2))
 go_upto_region 2 with (
  have hgd := HS.out; go_at_call 31; refine (hgd _ X1.out).mono ?_; rintro e wB ⟨mb, pb, ub, c4, rfl, hmo, hx3⟩; have rb2 := RB.out.ext hx3; have lb := RB.out.lt; have lx := X1.out.size; have x2 := X1.out.tr hx3; have hmo2 := hmo; clear c2 c3 RB X1 hgd hx3 HS hmo; have RB := Hd rb2; have X1 := Hd x2; have HM := Hd hmo2; have LB := Hd lb; have LX := Hd lx
  clear rb2 x2 hmo2 lb lx)
 by_cases h2 : 200 < l.length
 {
 have hp2 : pgErr p s l = 2 := (by rw [HPG.out, if_pos h2]); have i1 : (200:Int) < (l.length:Int) := (by omega); have HP2 := Hd hp2; clear hp2
 go_wp2_with (
  (with_reducible refine wpList_storeK (ty := 38) (cells := #[.int .i64 0, .bool false, .slice none 0 0, .int .i64 0]) rfl rfl RB.out ?_ ?_ ?_ ?_ ?_ ?_); rfl; rfl; kernel_rfl; rfl; simp [Value.oneCell']; rintro w7 hb7 ho7; have k0 := hb7.cell; have x2 := X1.out.then_only ho7 (fun k (e : k = rb) => by rw [e]; exact LR.out); clear X1 RB ho7 hb7; have X1 := Hd x2
  clear x2)
 refine bodyPost_ret (v := .tuple #[sZ, .int .i64 0, .int .i64 2]) (by simp [results, Tryz.results27, go_sem, k0, sZ]) rfl ?_; exact .inl ⟨by rw [HP2.out]; decide, by rw [HP2.out], X1.out⟩
 }
 {
 have hp2 : pgErr p s l = 0 := (by rw [HPG.out, if_neg h2]); have i1 : decide ((200:Int) < (l.length:Int)) = false := decide_eq_false (by omega); have i1' : decide (200 < l.length) = false := decide_eq_false (by omega); have hll : l.length ≤ 200 := (by omega); have HP2 := Hd hp2; have HLL := Hd hll; clear hp2 hll; clear h2
 go_upto_region 7 with (fail)
 go_loopw [33] (fun t33 wr => ∃ (k : Nat) (t : StD), k ≤ l.length ∧ t33 = .int .i64 k ∧ t.units.length = s.units.length ∧ Hid (progR p t k (l.drop k) = progR p s 0 l) ∧ Hid (MOw w2.heap.size wr mb pb ub c4 p t (.slice aj p.jam.length cj)) ∧ Hid (Blk wr rb #[.int .i64 0, .bool false, .slice none 0 0, .int .i64 0] 38) ∧ Hid (Ext w wr)) (fun t33 _ => l.length - (intOf t33).toNat)
 case atStart => exact ⟨0, s, Nat.zero_le _, rfl, rfl, rfl, HM, RB, X1⟩
 case round =>
  clear i1 i1'; obtain ⟨k, t, hk, rfl, htu, HPR, HMT, RB2, X2⟩ := hrel
  by_cases hlt : k < l.length
  {
  obtain ⟨b1, o1, rfl, hc1⟩ := HV.out (by omega); obtain ⟨d1, d2⟩ := hc1 k hlt; have hpr := HPR.out; rw [List.drop_eq_getElem_cons hlt] at hpr; have hki := HK.out l[k] (List.getElem_mem hlt); obtain ⟨⟨ak, ax⟩, hax⟩ : ∃ x, l[k] = x := ⟨_, rfl⟩; rw [hax] at d1 d2 hpr hki; dsimp only at d1 d2 hki; have e1 := X2.out.cellSome d1; have e2 := X2.out.cellSome d2; have hact := fun W (h : MOw w2.heap.size W mb pb ub c4 p t (.slice aj p.jam.length cj)) => act_any ak ax h (by rw [htu]; exact HUL.out) (by rw [htu]; exact HUJ.out) hki; have hau := actD_units p t ak ax; obtain ⟨er, her⟩ : ∃ x, actErr p t ak ax = x := ⟨_, rfl⟩; unfold ActPost at hact; rw [her] at hact; have i1 : (0:Int) ≤ (k:Int) := (by omega); have i2 : (k:Int) < (l.length:Int) := (by omega); clear hc1 d1 d2 hax hki; have HPN := Hd hpr; have HACT := Hd hact; have HER := Hd her; have HAU := Hd hau; clear hpr hact her hau; have wx := X2.out.size; have wrr := RB2.out.lt; have wm := HMT.out.bm.lt; have wp := HMT.out.bp.lt; have wu : ub < wr.heap.size := (by obtain ⟨cs, h, _⟩ := HMT.out.bu; exact h.lt); have wb : w2.heap.size ≤ wr.heap.size := (by have := HMT.out.lm; omega); have WX := Hd wx; have WR := Hd wrr; have WM := Hd wm; have WP := Hd wp; have WU := Hd wu; have WB := Hd wb; clear wx wrr wm wp wu wb
  by_cases her0 : er = 0
  {
  subst her0; have hnx := HPN.out; rw [progR_ok (by exact HER.out)] at hnx; dsimp only at hnx; have hut : (actD p t ak ax).units.length = s.units.length := (by rw [HAU.out]; exact htu); have HNX := Hd hnx; clear hnx
  go_wp2_with (first
   | (with_reducible refine wpList_allocA (t := 72) rfl rfl Tryz.zeroValue72 ?_
      rintro zb w4 hx1 hx2 hx3; have x2 := X2.out.tr hx2; have rb2 := RB2.out.ext hx2; have hm2 := HMT.out.ext hx2; have lz : wr.heap.size ≤ zb := hx3; have f1 := hx2.cellSome e1; have f2 := hx2.cellSome e2; clear e1 e2 hx2 hx3 X2 RB2 HMT; have ZB := Hd hx1; have X2 := Hd x2; have RB2 := Hd rb2; have HMT := Hd hm2; have LZ := Hd lz
      clear hx1 x2 rb2 hm2 lz)
   | (with_reducible refine wpList_storeK (ty := 72) (cells := #[.int .i64 ak, .int .i64 ax]) rfl rfl ZB.out ?_ ?_ ?_ ?_ ?_ ?_
      rfl; rfl; kernel_rfl; rfl; simp [Value.oneCell']; rintro w5 hb5 ho5; have hlt0 := LZ.out; have x2 := X2.out.then_only ho5 (fun b (e : b = zb) => by rw [e]; exact Nat.le_trans (WX.out) hlt0); have rb2 := RB2.out.only ho5 (fun (e : rb = zb) => by have := WR.out; omega); have hm2 := HMT.out.only ho5 (fun (e : mb = zb) => by have := WM.out; omega) (fun (e : pb = zb) => by have := WP.out; omega) (fun (e : ub = zb) => by have := WU.out; omega) (fun b hb (e : b = zb) => by have := WB.out; omega); have cz := hb5.cell; clear X2 RB2 HMT ZB ho5 f1 f2 hlt0; have X2 := Hd x2; have RB2 := Hd rb2; have HMT := Hd hm2; have ZB := Hd hb5
      clear x2 rb2 hm2 hb5)
   | (have hgd := HACT.out
      go_at_call 40; refine (hgd _ HMT.out).mono ?_; rintro e w6 ⟨rfl, hm6, ho6⟩; have x2 := X2.out.then_only ho6 (fun b e => by rcases e with e | e <;> (have := hm6.lm; have := hm6.lu; have := LX.out; omega)); have rb2 := RB2.out.only ho6 (fun e => by rcases e with e | e <;> (have := hm6.lm; have := hm6.lu; have := LB.out; omega)); clear hgd HACT X2 RB2 HMT cz ho6; have X2 := Hd x2; have RB2 := Hd rb2; have HMT := Hd hm6
      clear x2 rb2 hm6)
   | fail)
  go_roundw
  case rel => exact ⟨k + 1, actD p t ak ax, by omega, by go_num, hut, HNX, HMT, RB2, X2⟩
  case measure => simp [intOf] <;> omega
  }
  {
  have f1' : (er != 0) = true := (by simp [her0]); have hne : actErr p t ak ax ≠ 0 := (by rw [HER.out]; exact her0); have hat : actD p t ak ax = t := (by unfold actD; rw [if_neg hne]); have hnx := HPN.out; rw [progR_no hne] at hnx; rw [HER.out] at hnx; have HNX := Hd hnx; have HAT := Hd hat; clear hnx hat
  go_upto_region 11 with (first
   | (with_reducible refine wpList_allocA (t := 72) rfl rfl Tryz.zeroValue72 ?_
      rintro zb w4 hx1 hx2 hx3; have x2 := X2.out.tr hx2; have rb2 := RB2.out.ext hx2; have hm2 := HMT.out.ext hx2; have lz : wr.heap.size ≤ zb := hx3; have f1 := hx2.cellSome e1; have f2 := hx2.cellSome e2; clear e1 e2 hx2 hx3 X2 RB2 HMT; have ZB := Hd hx1; have X2 := Hd x2; have RB2 := Hd rb2; have HMT := Hd hm2; have LZ := Hd lz
      clear hx1 x2 rb2 hm2 lz)
   | (with_reducible refine wpList_storeK (ty := 72) (cells := #[.int .i64 ak, .int .i64 ax]) rfl rfl ZB.out ?_ ?_ ?_ ?_ ?_ ?_
      rfl; rfl; kernel_rfl; rfl; simp [Value.oneCell']; rintro w5 hb5 ho5; have hlt0 := LZ.out; have x2 := X2.out.then_only ho5 (fun b (e : b = zb) => by rw [e]; exact Nat.le_trans (WX.out) hlt0); have rb2 := RB2.out.only ho5 (fun (e : rb = zb) => by have := WR.out; omega); have hm2 := HMT.out.only ho5 (fun (e : mb = zb) => by have := WM.out; omega) (fun (e : pb = zb) => by have := WP.out; omega) (fun (e : ub = zb) => by have := WU.out; omega) (fun b hb (e : b = zb) => by have := WB.out; omega); have cz := hb5.cell; clear X2 RB2 HMT ZB ho5 f1 f2 hlt0; have X2 := Hd x2; have RB2 := Hd rb2; have HMT := Hd hm2; have ZB := Hd hb5
      clear x2 rb2 hm2 hb5)
   | (have hgd := HACT.out
      go_at_call 40; refine (hgd _ HMT.out).mono ?_; rintro e w6 ⟨rfl, hm6, ho6⟩; have x2 := X2.out.then_only ho6 (fun b e => by rcases e with e | e <;> (have := hm6.lm; have := hm6.lu; have := LX.out; omega)); have rb2 := RB2.out.only ho6 (fun e => by rcases e with e | e <;> (have := hm6.lm; have := hm6.lu; have := LB.out; omega)); clear hgd HACT X2 RB2 HMT cz ho6; have X2 := Hd x2; have RB2 := Hd rb2; have HMT := Hd hm6
      clear x2 rb2 hm6)
   | fail)
  have hm7 := HMT.out; rw [HAT.out] at hm7; have d := hm7.bm.cell; rw [htu] at d; have HM7 := Hd hm7; clear hm7; clear HMT
  go_wp2_with (
   (with_reducible refine wpList_storeK (ty := 38) (cells := #[.int .i64 t.drive, .bool t.folder, .slice (some ⟨ub, 0, none⟩) s.units.length c4, .int .i64 t.fresh]) rfl rfl RB2.out ?_ ?_ ?_ ?_ ?_ ?_); rfl; rfl; kernel_rfl; rfl; simp [Value.oneCell']; rintro w7 hb7 ho7; have k0 := hb7.cell; have x2 := X2.out.then_only ho7 (fun k (e : k = rb) => by rw [e]; exact LR.out); have how := owns_only HM7.out.own ho7 (fun b hb (e : b = rb) => by have h1 := (HM7.out.own.lt b hb).1; have h2 := LB.out; omega); clear X2 RB2 ho7 hb7 HM7 d; have X2 := Hd x2; have HOW := Hd how
   clear x2 how)
  refine bodyPost_ret (v := .tuple #[sV (.slice (some ⟨ub, 0, none⟩) s.units.length c4) t, .int .i64 k, .int .i64 er]) (by simp [results, Tryz.results27, go_sem, k0, sV]) rfl ?_; refine .inr ⟨HP2.out, _, by rw [← HNX.out], ?_, X2.out⟩; rw [← HNX.out]; have h9 := HOW.out; rw [htu] at h9; exact owns_weak h9 LX.out
  }
  }
  {
  have i2 : decide ((k:Int) < (l.length:Int)) = false := decide_eq_false (by omega); have hnx := HPR.out; rw [List.drop_eq_nil_of_le (by omega)] at hnx; rw [progR_nil] at hnx; obtain rfl : k = l.length := (by omega); have HNX := Hd hnx; clear hnx; have d := HMT.out.bm.cell; rw [htu] at d
  go_wp2_with (
   (with_reducible refine wpList_storeK (ty := 38) (cells := #[.int .i64 t.drive, .bool t.folder, .slice (some ⟨ub, 0, none⟩) s.units.length c4, .int .i64 t.fresh]) rfl rfl RB2.out ?_ ?_ ?_ ?_ ?_ ?_); rfl; rfl; kernel_rfl; rfl; simp [Value.oneCell']; rintro w7 hb7 ho7; have k0 := hb7.cell; have x2 := X2.out.then_only ho7 (fun k (e : k = rb) => by rw [e]; exact LR.out); have how := owns_only HMT.out.own ho7 (fun b hb (e : b = rb) => by have h1 := (HMT.out.own.lt b hb).1; have h2 := LB.out; omega); clear X2 RB2 ho7 hb7 HMT d; have X2 := Hd x2; have HOW := Hd how
   clear x2 how)
  refine bodyPost_ret (v := .tuple #[sV (.slice (some ⟨ub, 0, none⟩) s.units.length c4) t, .int .i64 l.length, .int .i64 0]) (by simp [results, Tryz.results27, go_sem, k0, sV]) rfl ?_; refine .inr ⟨HP2.out, _, by rw [← HNX.out], ?_, X2.out⟩; rw [← HNX.out]; have h9 := HOW.out; rw [htu] at h9; exact owns_weak h9 LX.out
  }
 }
 }
 {
 have hpe : pgErr p s l = e1 := (by unfold pgErr; rw [he1, if_pos h1]); have hs := fun w1 (k : Ext w w1) => (hst w1 k).mono fun e w' (h : StartPost w1 p s _ e w') => (h.resolve_right fun h => h1 (he1 ▸ h.1)).2; rw [he1] at hs; have f1 : (e1 != 0) = true := (by simp [h1]); have f2 : (e1 == 0) = false := (by simp [h1]); have HPE := Hd hpe; have H1 := Hd h1; have HS := Hd hs; clear hpe h1 hs; clear he1 hst
 go_enter Tryz.func27, Tryz.ntmps27
 go_upto_region 1 with (first
  | (with_reducible refine wpList_boxA (t := 34) (cs := #[.slice aj p.jam.length cj, .int .i64 p.warm, .int .i64 p.tail, .int .i64 p.dirt]) rfl rfl rfl ?_
     rintro xb w1 hx1 hx2 hx3; have PB := Hd hx1; have X1 := Hd hx2; clear hx1 hx2
     clear hx3)
  | (with_reducible refine wpList_boxA (t := 38) (cs := #[.int .i64 s.drive, .bool s.folder, .slice a s.units.length c, .int .i64 s.fresh]) rfl rfl rfl ?_
     rintro sb w2 hy1 hy2 hy3; have pb2 := PB.out.ext hy2; have x2 := X1.out.tr hy2; clear PB X1; have SB := Hd hy1; have PB := Hd pb2; have X1 := Hd x2; clear hy1 pb2 x2
     clear hy3 hy2)
  | (with_reducible refine wpList_allocA (t := 38) rfl rfl Tryz.zeroValue38 ?_
     rintro rb w2 hy1 hy2 hy3; have c2 := (PB.out.ext hy2).cell; have c3 := (SB.out.ext hy2).cell; have x2 := X1.out.tr hy2; have l2 : w.heap.size ≤ rb := Nat.le_trans X1.out.size hy3; clear PB X1 SB; have RB := Hd hy1; have X1 := Hd x2; have LR := Hd l2; clear hy1 x2 l2
     clear hy3 hy2))
 go_wp2_with (first
  | (have hgd := HS.out
     go_at_call 31; refine (hgd _ X1.out).mono ?_; rintro e w3 ⟨rfl, hx3⟩; have x2 := X1.out.tr hx3; have rb2 := RB.out.ext hx3; clear c2 c3 RB X1 hgd hx3 HS; have X1 := Hd x2; have RB := Hd rb2
     clear x2 rb2)
  | (with_reducible refine wpList_storeK (ty := 38) (cells := #[.int .i64 0, .bool false, .slice none 0 0, .int .i64 0]) rfl rfl RB.out ?_ ?_ ?_ ?_ ?_ ?_
     rfl; rfl; kernel_rfl; rfl; simp [Value.oneCell']; rintro w7 hb7 ho7; have k0 := hb7.cell; have x2 := X1.out.then_only ho7 (fun k (e : k = rb) => by rw [e]; exact LR.out); clear X1 RB ho7 hb7; have X1 := Hd x2
     clear x2))
 refine bodyPost_ret (v := .tuple #[sZ, .int .i64 0, .int .i64 e1]) (by simp [results, Tryz.results27, go_sem, k0, sZ]) rfl ?_; exact .inl ⟨by rw [HPE.out]; exact H1.out, by rw [HPE.out], X1.out⟩
 }
end Go.Proofs.YtojobdffnnibaaaGreat