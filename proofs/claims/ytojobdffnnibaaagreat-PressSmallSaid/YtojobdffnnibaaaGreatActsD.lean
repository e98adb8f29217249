/- PressActs: the reference's act. -/
import Derived.Test.YtojobdffnnibaaaGreatActsC
namespace Go.Proofs.YtojobdffnnibaaaGreat
open Go.RowKit
set_option linter.unusedVariables false
set_option linter.unusedSimpArgs false
set_option maxRecDepth 100000 in
set_option maxHeartbeats 4000000 in
theorem rAct_any {p : PressD} {s : StD} (g : Good p s) (k x : Int) (vj vu : Value) (w : World) (hj : Truths w vj p.jam) (hu : UnIn w vu s.units) :
 Calls Tryz.prog 53 #[pV vj p, sV vu s, .agg #[.int .i64 k, .int .i64 x]] w fun e w' => ∃ v, e = .returned (.tuple #[sV v (actD p s k x), .int .i64 (actErr p s k x)]) ∧ UnIn w' v (actD p s k x).units ∧ Ext w w' ∧ (actErr p s k x = 0 → w'.ownsRow w.heap.size 63 5 v (actD p s k x).units.length (uL (actD p s k x).units)) := by
 have hl3 := g.small; have hal := fun (q1 : 1 ≤ k ∧ k ≤ 12) (i : Nat) (hi : i < s.units.length) W (kx : Ext w W) => rAllowed_any g k i q1 hi vj vu W (Sl.ext hj kx) (hu.ext kx); have haf := fun (q1 : 1 ≤ k ∧ k ≤ 12) (i : Nat) (hi : i < s.units.length) W (kx : Ext w W) => rAfter_any k i q1 hi hl3.1 vu W (hu.ext kx); have hun := hu; obtain ⟨a, c, rfl, _⟩ := hu.form; clear hu; obtain ⟨_, aj, cj, hvj, _⟩ := hj; rw [List.length_map] at hvj; subst hvj; obtain ⟨n, hn⟩ : ∃ n, s.units.length = n := ⟨_, rfl⟩; unfold pV sV at hal; unfold sV at haf; rw [hn] at hal haf hun hl3; unfold pV sV; rw [hn]; have HAL := Hd hal; have HAF := Hd haf; have HUN := Hd hun; have HN := Hd hn; have HL3 := Hd hl3; clear hal haf hun hn hl3
 go_enter Tryz.func53, Tryz.ntmps53
 go_upto_region 1 with (first
  | (with_reducible refine wpList_boxA (t := 24) (cs := #[.slice aj p.jam.length cj, .int .i64 p.warm, .int .i64 p.tail, .int .i64 p.dirt]) rfl rfl rfl ?_
     rintro xb w1 hx1 hx2 hx3; have PB := Hd hx1; have X1 := Hd hx2; clear hx1 hx2
     clear hx3)
  | (with_reducible refine wpList_boxA (t := 27) (cs := #[.int .i64 s.drive, .bool s.folder, .slice a n c, .int .i64 s.fresh]) rfl rfl rfl ?_
     rintro sb w2 hy1 hy2 hy3; have pb2 := PB.out.ext hy2; have x2 := X1.out.tr hy2; clear PB X1; have SB := Hd hy1; have PB := Hd pb2; have X1 := Hd x2; clear hy1 pb2 x2
     clear hy3 hy2)
  | (with_reducible refine wpList_boxA (t := 66) (cs := #[.int .i64 k, .int .i64 x]) rfl rfl rfl ?_
     rintro ab w3 hy1 hy2 hy3; have pb2 := PB.out.ext hy2; have sb2 := SB.out.ext hy2; have x2 := X1.out.tr hy2; clear PB X1 SB; have SB := Hd sb2; have PB := Hd pb2; have X1 := Hd x2; have AB := Hd hy1; clear sb2 pb2 x2 hy1
     clear hy3 hy2)
  | (with_reducible refine wpList_allocA (t := 27) rfl rfl Tryz.zeroValue27 ?_
     rintro rb w4 hy1 hy2 hy3; have pb2 := PB.out.ext hy2; have sb2 := SB.out.ext hy2; have ab2 := AB.out.ext hy2; have lr := Nat.le_trans X1.out.size hy3; have x2 := X1.out.tr hy2; have c1 := pb2.cell; have c2 := sb2.cell; have c3 := ab2.cell; clear PB X1 SB AB; have SB := Hd sb2; have PB := Hd pb2; have X1 := Hd x2; have AB := Hd ab2; have RB := Hd hy1; have LR := Hd lr; clear sb2 pb2 x2 ab2 hy1 lr
     clear hy3 hy2))
 by_cases h1 : k < 1
 {
 have i1 : k < 1 := h1; have he : actErr p s k x = 150 := (by unfold actErr; rw [if_pos (Or.inl h1)]); have hd : actD p s k x = s := (by unfold actD; rw [if_neg (by rw [he] <;> decide)]); have HE := Hd he; have HD := Hd hd; clear he hd
 go_wp2_with (
  (with_reducible refine wpList_storeK (ty := 27) (cells := #[.int .i64 s.drive, .bool s.folder, .slice a n c, .int .i64 s.fresh]) rfl rfl RB.out ?_ ?_ ?_ ?_ ?_ ?_); rfl; rfl; kernel_rfl; rfl; simp [Value.oneCell']; rintro w7 hb7 ho7; have k0 := hb7.cell; have x2 := X1.out.then_only ho7 (fun k (e : k = rb) => by rw [e]; exact LR.out); clear X1 RB ho7 hb7; have X1 := Hd x2
  clear x2)
 refine bodyPost_ret (v := .tuple #[.agg #[.int .i64 s.drive, .bool s.folder, .slice a n c, .int .i64 s.fresh], .int .i64 150]) (by simp [results, Tryz.results53, go_sem, k0]) rfl ?_; exact ⟨.slice a n c, by rw [HE.out, HD.out] <;> rfl, by rw [HD.out]; exact HUN.out.ext X1.out, X1.out, fun h => absurd (HE.out.symm.trans h) (by decide)⟩
 }
 have i1 : decide (k < 1) = false := decide_eq_false h1
 by_cases h2 : 12 < k
 {
 have i2 : 12 < k := h2; have he : actErr p s k x = 150 := (by unfold actErr; rw [if_pos (Or.inr h2)]); have hd : actD p s k x = s := (by unfold actD; rw [if_neg (by rw [he] <;> decide)]); have HE := Hd he; have HD := Hd hd; clear he hd
 go_wp2_with (
  (with_reducible refine wpList_storeK (ty := 27) (cells := #[.int .i64 s.drive, .bool s.folder, .slice a n c, .int .i64 s.fresh]) rfl rfl RB.out ?_ ?_ ?_ ?_ ?_ ?_); rfl; rfl; kernel_rfl; rfl; simp [Value.oneCell']; rintro w7 hb7 ho7; have k0 := hb7.cell; have x2 := X1.out.then_only ho7 (fun k (e : k = rb) => by rw [e]; exact LR.out); clear X1 RB ho7 hb7; have X1 := Hd x2
  clear x2)
 refine bodyPost_ret (v := .tuple #[.agg #[.int .i64 s.drive, .bool s.folder, .slice a n c, .int .i64 s.fresh], .int .i64 150]) (by simp [results, Tryz.results53, go_sem, k0]) rfl ?_; exact ⟨.slice a n c, by rw [HE.out, HD.out] <;> rfl, by rw [HD.out]; exact HUN.out.ext X1.out, X1.out, fun h => absurd (HE.out.symm.trans h) (by decide)⟩
 }
 have i2 : decide (12 < k) = false := decide_eq_false h2
 have hac : actErr p s k x = if x < 0 ∨ (n : Int) ≤ x ∨ (ofUnit k = false ∧ x ≠ 0) then 1 else if allowD p s k x.toNat then 0 else 80 := by
  unfold actErr; rw [if_neg (by omega), HN.out]
 have HAC := Hd hac; clear hac
 by_cases h3 : x < 0
 {
 have i3 : x < 0 := h3; have he : actErr p s k x = 1 := (by rw [HAC.out, if_pos (Or.inl h3)]); have hd : actD p s k x = s := (by unfold actD; rw [if_neg (by rw [he] <;> decide)]); have HE := Hd he; have HD := Hd hd; clear he hd
 go_wp2_with (
  (with_reducible refine wpList_storeK (ty := 27) (cells := #[.int .i64 s.drive, .bool s.folder, .slice a n c, .int .i64 s.fresh]) rfl rfl RB.out ?_ ?_ ?_ ?_ ?_ ?_); rfl; rfl; kernel_rfl; rfl; simp [Value.oneCell']; rintro w7 hb7 ho7; have k0 := hb7.cell; have x2 := X1.out.then_only ho7 (fun k (e : k = rb) => by rw [e]; exact LR.out); clear X1 RB ho7 hb7; have X1 := Hd x2
  clear x2)
 refine bodyPost_ret (v := .tuple #[.agg #[.int .i64 s.drive, .bool s.folder, .slice a n c, .int .i64 s.fresh], .int .i64 1]) (by simp [results, Tryz.results53, go_sem, k0]) rfl ?_; exact ⟨.slice a n c, by rw [HE.out, HD.out] <;> rfl, by rw [HD.out]; exact HUN.out.ext X1.out, X1.out, fun h => absurd (HE.out.symm.trans h) (by decide)⟩
 }
 have i3 : decide (x < 0) = false := decide_eq_false h3
 by_cases h4 : (n : Int) ≤ x
 {
 have i4 : (n : Int) ≤ x := h4; have he : actErr p s k x = 1 := (by rw [HAC.out, if_pos (Or.inr (Or.inl h4))]); have hd : actD p s k x = s := (by unfold actD; rw [if_neg (by rw [he] <;> decide)]); have HE := Hd he; have HD := Hd hd; clear he hd
 go_wp2_with (
  (with_reducible refine wpList_storeK (ty := 27) (cells := #[.int .i64 s.drive, .bool s.folder, .slice a n c, .int .i64 s.fresh]) rfl rfl RB.out ?_ ?_ ?_ ?_ ?_ ?_); rfl; rfl; kernel_rfl; rfl; simp [Value.oneCell']; rintro w7 hb7 ho7; have k0 := hb7.cell; have x2 := X1.out.then_only ho7 (fun k (e : k = rb) => by rw [e]; exact LR.out); clear X1 RB ho7 hb7; have X1 := Hd x2
  clear x2)
 refine bodyPost_ret (v := .tuple #[.agg #[.int .i64 s.drive, .bool s.folder, .slice a n c, .int .i64 s.fresh], .int .i64 1]) (by simp [results, Tryz.results53, go_sem, k0]) rfl ?_; exact ⟨.slice a n c, by rw [HE.out, HD.out] <;> rfl, by rw [HD.out]; exact HUN.out.ext X1.out, X1.out, fun h => absurd (HE.out.symm.trans h) (by decide)⟩
 }
 have i4 : decide ((n : Int) ≤ x) = false := decide_eq_false h4; obtain ⟨i, rfl⟩ : ∃ i : Nat, x = (i : Int) := ⟨x.toNat, by omega⟩; have hin : i < n := by omega
 by_cases h5 : 7 ≤ k
 {
 have i5 : 7 ≤ k := h5
 by_cases h6 : k ≤ 11
 {
 have i6 : k ≤ 11 := h6
 by_cases h7 : i = 0
 {
 have i7 : ((i : Int) != 0) = false := (by simp [h7]); have hno : ¬ ((i : Int) < 0 ∨ (n : Int) ≤ i ∨ (ofUnit k = false ∧ (i : Int) ≠ 0)) := (by rintro (h | h | h) <;> omega); have HNO := Hd hno; clear hno; clear h7; have hal := HAL.out ⟨by omega, by omega⟩ i hin; have haf := HAF.out ⟨by omega, by omega⟩ i hin; obtain ⟨B, hB⟩ : ∃ b, allowD p s k i = b := ⟨_, rfl⟩; have hB2 := hB; rw [hB] at hal; have HL := Hd hal; have HF := Hd haf; have HB := Hd hB2; clear hal haf hB2; clear HAL HAF hB
 cases B
 {
 have he : actErr p s k (i : Int) = 80 := (by rw [HAC.out, if_neg HNO.out, Int.toNat_natCast, HB.out]; rfl); have hd : actD p s k (i : Int) = s := (by unfold actD; rw [if_neg (by rw [he] <;> decide)]); have HE := Hd he; have HD := Hd hd; clear he hd
 go_wp2_with (first
  | (go_at_call 79
     refine (HL.out _ X1.out).mono ?_; rintro e w5 ⟨rfl, hx⟩; have sb2 := SB.out.ext hx; have rb2 := RB.out.ext hx; have x2 := X1.out.tr hx; clear c1 c2 c3 SB RB X1 hx HL; have c2 := sb2.cell; have RB := Hd rb2; have X1 := Hd x2
     clear rb2 x2)
  | (with_reducible refine wpList_storeK (ty := 27) (cells := #[.int .i64 s.drive, .bool s.folder, .slice a n c, .int .i64 s.fresh]) rfl rfl RB.out ?_ ?_ ?_ ?_ ?_ ?_
     rfl; rfl; kernel_rfl; rfl; simp [Value.oneCell']; rintro w7 hb7 ho7; have k0 := hb7.cell; have x2 := X1.out.then_only ho7 (fun k (e : k = rb) => by rw [e]; exact LR.out); clear X1 RB ho7 hb7; have X1 := Hd x2
     clear x2))
 refine bodyPost_ret (v := .tuple #[.agg #[.int .i64 s.drive, .bool s.folder, .slice a n c, .int .i64 s.fresh], .int .i64 80]) (by simp [results, Tryz.results53, go_sem, k0]) rfl ?_; exact ⟨.slice a n c, by rw [HE.out, HD.out] <;> rfl, by rw [HD.out]; exact HUN.out.ext X1.out, X1.out, fun h => absurd (HE.out.symm.trans h) (by decide)⟩
 }
 {
 have he : actErr p s k (i : Int) = 0 := (by rw [HAC.out, if_neg HNO.out, Int.toNat_natCast, HB.out]; rfl); have hd : actD p s k (i : Int) = doD s k i := (by unfold actD; rw [if_pos he, Int.toNat_natCast]); obtain ⟨s2, hs2⟩ : ∃ t, doD s k i = t := ⟨_, rfl⟩; rw [hs2] at hd; have haf2 := HF.out; rw [hs2] at haf2
 have hl2 : s2.units.length = n := by
  have := actD_units p s k (i : Int); rw [hd, HN.out] at this; exact this
 have HE := Hd he; have HD := Hd hd; have HF2 := Hd haf2; have HL2 := Hd hl2; clear he hd haf2 hl2; clear HF hs2
 go_wp2_with (first
  | (go_at_call 79
     refine (HL.out _ X1.out).mono ?_; rintro e w5 ⟨rfl, hx⟩; have sb2 := SB.out.ext hx; have ab2 := AB.out.ext hx; have rb2 := RB.out.ext hx; have x2 := X1.out.tr hx; clear c1 c2 c3 SB RB X1 hx HL AB; have c2 := sb2.cell; have c3 := ab2.cell; have RB := Hd rb2; have X1 := Hd x2
     clear rb2 x2)
  | (go_at_call 80
     refine (HF2.out _ X1.out).mono ?_; rintro e w6 ⟨v, rfl, hv, hx⟩; rw [HL2.out] at hv; obtain ⟨a6, c6, hv6⟩ := row_form hv; subst hv6; have lrb := RB.out.lt; have rb2 := RB.out.ext hx; have x2 := X1.out.tr hx; have lx := X1.out.size; have uvb : ∀ b, (Value.slice a6 n c6).ownBlock = some b → ¬ b = rb := fun b hb e => (by have := (hv.lt b hb).1; omega); clear c2 c3 RB X1 hx HF2; have RB := Hd rb2; have X1 := Hd x2; have UV := Hd hv; have UVB := Hd uvb; have LX := Hd lx
     clear rb2 x2 hv uvb lx)
  | (with_reducible refine wpList_storeK (ty := 27) (cells := #[.int .i64 s2.drive, .bool s2.folder, .slice a6 n c6, .int .i64 s2.fresh]) rfl rfl RB.out ?_ ?_ ?_ ?_ ?_ ?_
     rfl; rfl; kernel_rfl; rfl; simp [Value.oneCell']; rintro w7 hb7 ho7; have k0 := hb7.cell; have x2 := X1.out.then_only ho7 (fun k (e : k = rb) => by rw [e]; exact LR.out); have uv := owns_only UV.out ho7 UVB.out; clear X1 RB ho7 hb7; have X1 := Hd x2; have UV2 := Hd uv
     clear x2 uv))
 refine bodyPost_ret (v := .tuple #[.agg #[.int .i64 s2.drive, .bool s2.folder, .slice a6 n c6, .int .i64 s2.fresh], .int .i64 0]) (by simp [results, Tryz.results53, go_sem, k0]) rfl ?_; exact ⟨.slice a6 n c6, by rw [HE.out, HD.out] <;> rfl, by rw [HD.out]; exact UnIn.of_owns (by rw [HL2.out]; exact UV2.out) (by rw [HL2.out]; have := HL3.out; omega), X1.out, fun _ => by rw [HD.out, HL2.out]; exact owns_weak UV2.out LX.out⟩
 }
 }
 {
 have i7 : ((i : Int) != 0) = true := (by simp [h7]); have hof : ofUnit k = false := (by unfold ofUnit; simp [h5, h6]); have he : actErr p s k (i : Int) = 1 := (by rw [HAC.out, if_pos (Or.inr (Or.inr ⟨hof, by omega⟩))]); have hd : actD p s k (i : Int) = s := (by unfold actD; rw [if_neg (by rw [he] <;> decide)]); have HE := Hd he; have HD := Hd hd; clear he hd
 go_wp2_with (
  (with_reducible refine wpList_storeK (ty := 27) (cells := #[.int .i64 s.drive, .bool s.folder, .slice a n c, .int .i64 s.fresh]) rfl rfl RB.out ?_ ?_ ?_ ?_ ?_ ?_); rfl; rfl; kernel_rfl; rfl; simp [Value.oneCell']; rintro w7 hb7 ho7; have k0 := hb7.cell; have x2 := X1.out.then_only ho7 (fun k (e : k = rb) => by rw [e]; exact LR.out); clear X1 RB ho7 hb7; have X1 := Hd x2
  clear x2)
 refine bodyPost_ret (v := .tuple #[.agg #[.int .i64 s.drive, .bool s.folder, .slice a n c, .int .i64 s.fresh], .int .i64 1]) (by simp [results, Tryz.results53, go_sem, k0]) rfl ?_; exact ⟨.slice a n c, by rw [HE.out, HD.out] <;> rfl, by rw [HD.out]; exact HUN.out.ext X1.out, X1.out, fun h => absurd (HE.out.symm.trans h) (by decide)⟩
 }
 }
 {
 have i6 : decide (k ≤ 11) = false := decide_eq_false h6; have hof : ofUnit k = true := (by unfold ofUnit; simp [h6]); have hno : ¬ ((i : Int) < 0 ∨ (n : Int) ≤ i ∨ (ofUnit k = false ∧ (i : Int) ≠ 0)) := (by rw [hof]; rintro (h | h | h) <;> first | omega | exact absurd h.1 (by decide)); have HNO := Hd hno; clear hno; have hal := HAL.out ⟨by omega, by omega⟩ i hin; have haf := HAF.out ⟨by omega, by omega⟩ i hin; obtain ⟨B, hB⟩ : ∃ b, allowD p s k i = b := ⟨_, rfl⟩; have hB2 := hB; rw [hB] at hal; have HL := Hd hal; have HF := Hd haf; have HB := Hd hB2; clear hal haf hB2; clear HAL HAF hB
 cases B
 {
 have he : actErr p s k (i : Int) = 80 := (by rw [HAC.out, if_neg HNO.out, Int.toNat_natCast, HB.out]; rfl); have hd : actD p s k (i : Int) = s := (by unfold actD; rw [if_neg (by rw [he] <;> decide)]); have HE := Hd he; have HD := Hd hd; clear he hd
 go_wp2_with (first
  | (go_at_call 79
     refine (HL.out _ X1.out).mono ?_; rintro e w5 ⟨rfl, hx⟩; have sb2 := SB.out.ext hx; have rb2 := RB.out.ext hx; have x2 := X1.out.tr hx; clear c1 c2 c3 SB RB X1 hx HL; have c2 := sb2.cell; have RB := Hd rb2; have X1 := Hd x2
     clear rb2 x2)
  | (with_reducible refine wpList_storeK (ty := 27) (cells := #[.int .i64 s.drive, .bool s.folder, .slice a n c, .int .i64 s.fresh]) rfl rfl RB.out ?_ ?_ ?_ ?_ ?_ ?_
     rfl; rfl; kernel_rfl; rfl; simp [Value.oneCell']; rintro w7 hb7 ho7; have k0 := hb7.cell; have x2 := X1.out.then_only ho7 (fun k (e : k = rb) => by rw [e]; exact LR.out); clear X1 RB ho7 hb7; have X1 := Hd x2
     clear x2))
 refine bodyPost_ret (v := .tuple #[.agg #[.int .i64 s.drive, .bool s.folder, .slice a n c, .int .i64 s.fresh], .int .i64 80]) (by simp [results, Tryz.results53, go_sem, k0]) rfl ?_; exact ⟨.slice a n c, by rw [HE.out, HD.out] <;> rfl, by rw [HD.out]; exact HUN.out.ext X1.out, X1.out, fun h => absurd (HE.out.symm.trans h) (by decide)⟩
 }
 {
 have he : actErr p s k (i : Int) = 0 := (by rw [HAC.out, if_neg HNO.out, Int.toNat_natCast, HB.out]; rfl); have hd : actD p s k (i : Int) = doD s k i := (by unfold actD; rw [if_pos he, Int.toNat_natCast]); obtain ⟨s2, hs2⟩ : ∃ t, doD s k i = t := ⟨_, rfl⟩; rw [hs2] at hd; have haf2 := HF.out; rw [hs2] at haf2
 have hl2 : s2.units.length = n := by
  have := actD_units p s k (i : Int); rw [hd, HN.out] at this; exact this
 have HE := Hd he; have HD := Hd hd; have HF2 := Hd haf2; have HL2 := Hd hl2; clear he hd haf2 hl2; clear HF hs2
 go_wp2_with (first
  | (go_at_call 79
     refine (HL.out _ X1.out).mono ?_; rintro e w5 ⟨rfl, hx⟩; have sb2 := SB.out.ext hx; have ab2 := AB.out.ext hx; have rb2 := RB.out.ext hx; have x2 := X1.out.tr hx; clear c1 c2 c3 SB RB X1 hx HL AB; have c2 := sb2.cell; have c3 := ab2.cell; have RB := Hd rb2; have X1 := Hd x2
     clear rb2 x2)
  | (go_at_call 80
     refine (HF2.out _ X1.out).mono ?_; rintro e w6 ⟨v, rfl, hv, hx⟩; rw [HL2.out] at hv; obtain ⟨a6, c6, hv6⟩ := row_form hv; subst hv6; have lrb := RB.out.lt; have rb2 := RB.out.ext hx; have x2 := X1.out.tr hx; have lx := X1.out.size; have uvb : ∀ b, (Value.slice a6 n c6).ownBlock = some b → ¬ b = rb := fun b hb e => (by have := (hv.lt b hb).1; omega); clear c2 c3 RB X1 hx HF2; have RB := Hd rb2; have X1 := Hd x2; have UV := Hd hv; have UVB := Hd uvb; have LX := Hd lx
     clear rb2 x2 hv uvb lx)
  | (with_reducible refine wpList_storeK (ty := 27) (cells := #[.int .i64 s2.drive, .bool s2.folder, .slice a6 n c6, .int .i64 s2.fresh]) rfl rfl RB.out ?_ ?_ ?_ ?_ ?_ ?_
     rfl; rfl; kernel_rfl; rfl; simp [Value.oneCell']; rintro w7 hb7 ho7; have k0 := hb7.cell; have x2 := X1.out.then_only ho7 (fun k (e : k = rb) => by rw [e]; exact LR.out); have uv := owns_only UV.out ho7 UVB.out; clear X1 RB ho7 hb7; have X1 := Hd x2; have UV2 := Hd uv
     clear x2 uv))
 refine bodyPost_ret (v := .tuple #[.agg #[.int .i64 s2.drive, .bool s2.folder, .slice a6 n c6, .int .i64 s2.fresh], .int .i64 0]) (by simp [results, Tryz.results53, go_sem, k0]) rfl ?_; exact ⟨.slice a6 n c6, by rw [HE.out, HD.out] <;> rfl, by rw [HD.out]; exact UnIn.of_owns (by rw [HL2.out]; exact UV2.out) (by rw [HL2.out]; have := HL3.out; omega), X1.out, fun _ => by rw [HD.out, HL2.out]; exact owns_weak UV2.out LX.out⟩
 }
 }
 }
 {
 have i5 : decide (7 ≤ k) = false := decide_eq_false h5; have hof : ofUnit k = true := (by unfold ofUnit; simp [h5]); have hno : ¬ ((i : Int) < 0 ∨ (n : Int) ≤ i ∨ (ofUnit k = false ∧ (i : Int) ≠ 0)) := (by rw [hof]; rintro (h | h | h) <;> first | omega | exact absurd h.1 (by decide)); have HNO := Hd hno; clear hno; have hal := HAL.out ⟨by omega, by omega⟩ i hin; have haf := HAF.out ⟨by omega, by omega⟩ i hin; obtain ⟨B, hB⟩ : ∃ b, allowD p s k i = b := ⟨_, rfl⟩; have hB2 := hB; rw [hB] at hal; have HL := Hd hal; have HF := Hd haf; have HB := Hd hB2; clear hal haf hB2; clear HAL HAF hB
 cases B
 {
 have he : actErr p s k (i : Int) = 80 := (by rw [HAC.out, if_neg HNO.out, Int.toNat_natCast, HB.out]; rfl); have hd : actD p s k (i : Int) = s := (by unfold actD; rw [if_neg (by rw [he] <;> decide)]); have HE := Hd he; have HD := Hd hd; clear he hd
 go_wp2_with (first
  | (go_at_call 79
     refine (HL.out _ X1.out).mono ?_; rintro e w5 ⟨rfl, hx⟩; have sb2 := SB.out.ext hx; have rb2 := RB.out.ext hx; have x2 := X1.out.tr hx; clear c1 c2 c3 SB RB X1 hx HL; have c2 := sb2.cell; have RB := Hd rb2; have X1 := Hd x2
     clear rb2 x2)
  | (with_reducible refine wpList_storeK (ty := 27) (cells := #[.int .i64 s.drive, .bool s.folder, .slice a n c, .int .i64 s.fresh]) rfl rfl RB.out ?_ ?_ ?_ ?_ ?_ ?_
     rfl; rfl; kernel_rfl; rfl; simp [Value.oneCell']; rintro w7 hb7 ho7; have k0 := hb7.cell; have x2 := X1.out.then_only ho7 (fun k (e : k = rb) => by rw [e]; exact LR.out); clear X1 RB ho7 hb7; have X1 := Hd x2
     clear x2))
 refine bodyPost_ret (v := .tuple #[.agg #[.int .i64 s.drive, .bool s.folder, .slice a n c, .int .i64 s.fresh], .int .i64 80]) (by simp [results, Tryz.results53, go_sem, k0]) rfl ?_; exact ⟨.slice a n c, by rw [HE.out, HD.out] <;> rfl, by rw [HD.out]; exact HUN.out.ext X1.out, X1.out, fun h => absurd (HE.out.symm.trans h) (by decide)⟩
 }
 {
 have he : actErr p s k (i : Int) = 0 := (by rw [HAC.out, if_neg HNO.out, Int.toNat_natCast, HB.out]; rfl); have hd : actD p s k (i : Int) = doD s k i := (by unfold actD; rw [if_pos he, Int.toNat_natCast]); obtain ⟨s2, hs2⟩ : ∃ t, doD s k i = t := ⟨_, rfl⟩; rw [hs2] at hd; have haf2 := HF.out; rw [hs2] at haf2
 have hl2 : s2.units.length = n := by
  have := actD_units p s k (i : Int); rw [hd, HN.out] at this; exact this
 have HE := Hd he; have HD := Hd hd; have HF2 := Hd haf2; have HL2 := Hd hl2; clear he hd haf2 hl2; clear HF hs2
 go_wp2_with (first
  | (go_at_call 79
     refine (HL.out _ X1.out).mono ?_; rintro e w5 ⟨rfl, hx⟩; have sb2 := SB.out.ext hx; have ab2 := AB.out.ext hx; have rb2 := RB.out.ext hx; have x2 := X1.out.tr hx; clear c1 c2 c3 SB RB X1 hx HL AB; have c2 := sb2.cell; have c3 := ab2.cell; have RB := Hd rb2; have X1 := Hd x2
     clear rb2 x2)
  | (go_at_call 80
     refine (HF2.out _ X1.out).mono ?_; rintro e w6 ⟨v, rfl, hv, hx⟩; rw [HL2.out] at hv; obtain ⟨a6, c6, hv6⟩ := row_form hv; subst hv6; have lrb := RB.out.lt; have rb2 := RB.out.ext hx; have x2 := X1.out.tr hx; have lx := X1.out.size; have uvb : ∀ b, (Value.slice a6 n c6).ownBlock = some b → ¬ b = rb := fun b hb e => (by have := (hv.lt b hb).1; omega); clear c2 c3 RB X1 hx HF2; have RB := Hd rb2; have X1 := Hd x2; have UV := Hd hv; have UVB := Hd uvb; have LX := Hd lx
     clear rb2 x2 hv uvb lx)
  | (with_reducible refine wpList_storeK (ty := 27) (cells := #[.int .i64 s2.drive, .bool s2.folder, .slice a6 n c6, .int .i64 s2.fresh]) rfl rfl RB.out ?_ ?_ ?_ ?_ ?_ ?_
     rfl; rfl; kernel_rfl; rfl; simp [Value.oneCell']; rintro w7 hb7 ho7; have k0 := hb7.cell; have x2 := X1.out.then_only ho7 (fun k (e : k = rb) => by rw [e]; exact LR.out); have uv := owns_only UV.out ho7 UVB.out; clear X1 RB ho7 hb7; have X1 := Hd x2; have UV2 := Hd uv
     clear x2 uv))
 refine bodyPost_ret (v := .tuple #[.agg #[.int .i64 s2.drive, .bool s2.folder, .slice a6 n c6, .int .i64 s2.fresh], .int .i64 0]) (by simp [results, Tryz.results53, go_sem, k0]) rfl ?_; exact ⟨.slice a6 n c6, by rw [HE.out, HD.out] <;> rfl, by rw [HD.out]; exact UnIn.of_owns (by rw [HL2.out]; exact UV2.out) (by rw [HL2.out]; have := HL3.out; omega), X1.out, fun _ => by rw [HD.out, HL2.out]; exact owns_weak UV2.out LX.out⟩
 }
 }
end Go.Proofs.YtojobdffnnibaaaGreat