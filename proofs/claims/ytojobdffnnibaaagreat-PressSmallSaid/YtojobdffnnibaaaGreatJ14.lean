/- The reference: Closed. PressFinds: lists of integers copied and compared; what is found has small numbers. The reference: Verify and Closed. PressSmall: the press of three towers, in plain words. -/
import Derived.Test.YtojobdffnnibaaaGreatLyF
import Derived.Test.YtojobdffnnibaaaGreatPClosed
import Derived.Test.YtojobdffnnibaaaGreatJ2
import Derived.Test.YtojobdffnnibaaaGreatJ10
import Derived.Test.YtojobdffnnibaaaGreatActsG
import Derived.Test.YtojobdffnnibaaaGreatJ11
namespace Go.Proofs.YtojobdffnnibaaaGreat
open Go.RowKit
set_option linter.unusedVariables false
set_option linter.unusedSimpArgs false
/-- The codes below c that were seen, in order. -/
def cdU (L : List StepD) (c : Nat) : List Int := ((List.range c).filter (seenC L)).map fun n : Nat => (n : Int)
theorem cdU_yes {L : List StepD} {c : Nat} (h : seenC L c = true) : cdU L (c + 1) = cdU L c ++ [(c:Int)] := by
 unfold cdU; rw [List.range_succ, List.filter_append, List.map_append, List.filter_cons_of_pos h]; simp
theorem cdU_no {L : List StepD} {c : Nat} (h : seenC L c = false) : cdU L (c + 1) = cdU L c := by
 unfold cdU; rw [List.range_succ, List.filter_append, List.map_append, List.filter_cons_of_neg (by simp [h])]; simp
theorem cdU_len (L : List StepD) (c : Nat) : (cdU L c).length ≤ c := by
 unfold cdU; rw [List.length_map]; exact Nat.le_trans (List.length_filter_le _ _) (by simp)
theorem cdU_all {p : PressD} {s : StD} (F : ClosedF p s) (hl : s.units.length ≤ 3) : cdU (closedL p s) 30000 = codesS p s := by
 have hmem : ∀ x, x ∈ cdU (closedL p s) 30000 ↔ x ∈ codesD p s := fun x => by
  unfold cdU codesD seenC; simp only [List.mem_map, List.mem_filter, List.mem_range, List.any_eq_true, beq_iff_eq]
  constructor
  · rintro ⟨n, ⟨_, y, hy, e⟩, rfl⟩
    exact ⟨y, hy, e⟩
  { rintro ⟨y, hy, rfl⟩; obtain ⟨c, hc, hlt⟩ := code_lt (F.fit y hy) hl; exact ⟨c, ⟨by omega, y, hy, hc⟩, hc.symm⟩ }
 have hpw : (cdU (closedL p s) 30000).Pairwise (· < ·) := by
  unfold cdU; rw [List.pairwise_map]; refine (List.Pairwise.filter _ (List.pairwise_lt_range (n := 30000))).imp fun h => by omega
 have hnd : (cdU (closedL p s) 30000).Nodup := by
  rw [List.nodup_iff_pairwise_ne]; exact hpw.imp fun h => by omega
 have hperm : (cdU (closedL p s) 30000).Perm (codesS p s) := ((List.perm_ext_iff_of_nodup hnd F.nodup).2 hmem).trans (codesS_perm p s).symm; refine List.Perm.eq_of_pairwise (le := fun x y : Int => decide (x ≤ y) = true) (fun a b _ _ h1 h2 => ?_) (hpw.imp fun h => by simp; omega) (List.pairwise_mergeSort (fun a b c h1 h2 => ?_) (fun a b => ?_) _) hperm
 · simp at h1 h2; omega
 · simp at h1 h2 ⊢; omega
 · simp; omega
theorem seenC_take {L : List StepD} {k : Nat} (h : k < L.length) (c : Nat) : seenC (L.take (k + 1)) c = (seenC (L.take k) c || codeD L[k].at_ == (c : Int)) := by
 rw [List.take_succ_eq_append_getElem h, seenC_snoc]
set_option maxRecDepth 100000 in
set_option maxHeartbeats 4000000 in
theorem rClosed_any (p : PressD) (s : StD) (vj vu : Value) (w : World) (hj : Truths w vj p.jam) (hu : UnIn w vu s.units) (hl : s.units.length ≤ 1000000) :
 Calls Tryz.prog 17 #[pV vj p, sV vu s] w (ClosedPost w p s) := by
 have hst := fun W (k : Ext w W) => rStarted_any p s vj vu W (Sl.ext hj k) (hu.ext k) hl; have hlay := fun (gd : Good p s) W (k : Ext w W) => rLayers_any gd vj vu W (Sl.ext hj k) (hu.ext k); obtain ⟨a, c, rfl, Hu⟩ := hu.form; obtain ⟨_, aj, cj, hvj, _⟩ := id hj; rw [List.length_map] at hvj; subst hvj; clear hj hu Hu; unfold pV sV at *; obtain ⟨e1, he1⟩ : ∃ e, stErr p s = e := ⟨_, rfl⟩; rw [he1] at hst; have HST := Hd hst; have HLAY := Hd hlay; have HE1 := Hd he1; have HL := Hd hl; clear hst hlay he1 hl
 go_enter Tryz.func17, Tryz.ntmps17
 go_upto_region 2 with (first
  | (with_reducible refine wpList_boxA (t := 24) (cs := #[.slice aj p.jam.length cj, .int .i64 p.warm, .int .i64 p.tail, .int .i64 p.dirt]) rfl rfl rfl ?_
     rintro xb w1 hx1 hx2 hx3; have PB := Hd hx1; have X1 := Hd hx2; clear hx1 hx2
     clear hx3)
  | (with_reducible refine wpList_boxA (t := 27) (cs := #[.int .i64 s.drive, .bool s.folder, .slice a s.units.length c, .int .i64 s.fresh]) rfl rfl rfl ?_
     rintro sb w2 hy1 hy2 hy3; have pb2 := PB.out.ext hy2; have x2 := X1.out.tr hy2; have c1 := pb2.cell; have c2 := hy1.cell; clear PB X1; have SB := Hd hy1; have PB := Hd pb2; have X1 := Hd x2; clear hy1 pb2 x2
     clear hy3 hy2)
  | (go_at_call 46
     refine (HST.out _ X1.out).mono ?_; rintro e w4 ⟨rfl, hx⟩; have pb2 := PB.out.ext hx; have sb2 := SB.out.ext hx; have x2 := X1.out.tr hx; clear c1 c2 PB X1 hx HST SB; have c1 := pb2.cell; have c2 := sb2.cell; have X1 := Hd x2
     clear x2))
 by_cases h1 : e1 = 0
 {
 subst h1; have gd : Good p s := (good_iff p s).1 HE1.out; have hlay2 := HLAY.out gd; have hsm := gd.small.1; have F := closed_all (p := p) gd.dr hsm; have hdr := gd.dr; have HLAY2 := Hd hlay2; have HDR := Hd hdr; have HF := Hd F; clear hlay2 hdr F
 go_upto_region 7 with (first
  | (go_at_call 38
     refine (HLAY2.out _ X1.out).mono ?_; rintro e w5 ⟨v1, v2, rfl, hout, hx⟩; have x2 := X1.out.tr hx; obtain ⟨fu, fb, r1, r2, r3⟩ := hout; obtain ⟨a1, c1', hv1⟩ := row_form r1; subst hv1; have r3' := fun j h => (r3 j h).1; clear c1 c2 X1 hx HLAY2 HLAY r2 r3; have X1 := Hd x2; have R1 := Hd r1; have R3 := Hd r3'
     clear x2 r1 r3')
  | (with_reducible refine wpList_makeBits rfl rfl rfl rfl ?_
     rintro bb N30 w6 hN30 hbits hx hlb; have BI := Hd hbits; have HN30 := Hd hN30; have X56 := Hd hx; have LB := Hd hlb
     clear hbits hN30 hx hlb))
 obtain ⟨L, hL⟩ : ∃ L, closedL p s = L := ⟨_, rfl⟩; rw [hL] at R1; have r3 := R3.out; rw [hL] at r3; have hfit := HF.out.fit; rw [hL] at hfit; have hlen : L.length ≤ 32768 := (by rw [← hL]; obtain ⟨e, _⟩ := closed_round (p := p) (s := s) HDR.out; rw [e]; exact (round_ok HDR.out _).len); have hall := cdU_all HF.out hsm; rw [hL] at hall; clear R3; rw [hL]; have b0 : Bits w6 bb (seenC (L.take 0)) := BI.out.congr fun c => rfl; clear BI; have R3 := Hd r3; have HFIT := Hd hfit; have BI := Hd b0; have HALL := Hd hall; clear r3 hfit b0 hall
 go_loopw [10] (fun t10 wr => ∃ i : Nat, i ≤ L.length ∧ t10 = .int .i64 i ∧ Hid (Bits wr bb (seenC (L.take i))) ∧ Hid (Ext w5 wr)) (fun t10 _ => L.length - (intOf t10).toNat)
 case atStart => exact ⟨0, Nat.zero_le _, rfl, BI, X56⟩
 case round =>
  obtain ⟨i, hi, rfl, HB, HX⟩ := hrel
  by_cases hlt : i < L.length
  {
  have hr := R3.out i hlt; have hft := HFIT.out L[i] (List.getElem_mem hlt); have hget := fun j hj => stR_get fu L i j hlt hj; have hstp := seenC_take hlt; obtain ⟨x, hx⟩ : ∃ x, L[i] = x := ⟨_, rfl⟩; rw [hx] at hget hft hstp; have hr2 : UnIn w5 (fu i) x.at_.units := (by rw [← hx]; exact hr); obtain ⟨t, tk, tu, tf⟩ := x; dsimp only at hr2 hget hft hstp; obtain ⟨ta, tc, htv⟩ := hr2.slice hft.len; rw [htv] at hr2 hget; obtain ⟨g1, o1, rfl, hc1⟩ := row_cells R1.out (by omega); have d0 : wr.cell? ⟨g1, o1 + i * 4, none⟩ = some (.int .i64 t.drive) := HX.out.cellSome (hc1 _ _ (hget 0 (by omega))); have d1 : wr.cell? ⟨g1, o1 + i * 4 + 1, none⟩ = some (.bool t.folder) := HX.out.cellSome (hc1 _ _ (hget 1 (by omega))); have d2 : wr.cell? ⟨g1, o1 + i * 4 + 2, none⟩ = some (.slice ta s.units.length tc) := HX.out.cellSome (hc1 _ _ (hget 2 (by omega))); have d3 : wr.cell? ⟨g1, o1 + i * 4 + 3, none⟩ = some (.int .i64 t.fresh) := HX.out.cellSome (hc1 _ _ (hget 3 (by omega))); obtain ⟨q1, hq1, hq1l⟩ := code_lt hft hsm; have hco := fun W (k : Ext wr W) => rCode0_any t (.slice ta s.units.length tc) W (hr2.ext (HX.out.tr k)) (by rw [hft.len]; exact hsm) hft.dr; unfold sV at hco; rw [hq1] at hco hstp; have i0 : (0:Int) ≤ (i:Int) := (by omega); have i1 : (i:Int) < (L.length:Int) := (by omega); have j0 : (0:Int) ≤ (q1:Int) := (by omega); have j1 : (q1:Int) < (N30:Int) := (by rw [HN30.out]; omega); have hlb := LB.out; have hx5 := HX.out.size; clear hget hc1 htv hr hr2 hft hx hq1; have HCO := Hd hco; have HSTP := Hd hstp; clear hco hstp
  go_wp2_with (first
   | (go_at_call 47
      refine (HCO.out _ (Below.refl _ _)).mono ?_; rintro e wA ⟨rfl, hx⟩; have bi2 := HB.out.ext hx; obtain ⟨bcs, hbc, hbs⟩ := bi2.blk; have x2 := HX.out.tr hx; clear d0 d1 d2 d3 HX HB HCO hx; have HX := Hd x2; have HB := Hd bi2; have BC := Hd hbc
      clear x2 bi2 hbc)
   | (with_reducible refine wpList_setK (b := bb) (i := q1) (v := .bool true) rfl rfl BC.out ?_ ?_ ?_ ?_ ?_ ?_ ?_
      rfl; rfl; omega; rfl; rfl; rfl; rintro wB hb ho
      have bi2 := (HB.out.set BC.out hb).congr fun c => show (seenC (L.take i) c || c == q1) = seenC (L.take (i + 1)) c by
       rw [HSTP.out]
       congr 1
       rw [Bool.eq_iff_iff, beq_iff_eq, beq_iff_eq]; omega
      have x2 := HX.out.then_only ho (fun b (e : b = bb) => by rw [e]; exact hlb); clear HX HB hb ho; have HX := Hd x2; have HB := Hd bi2
      clear x2 bi2))
  go_roundw
  case rel => exact ⟨i + 1, by omega, by go_num, HB, HX⟩
  case measure => simp [intOf] <;> omega
  }
  {
  have i1 : decide ((i:Int) < (L.length:Int)) = false := decide_eq_false (by omega); obtain rfl : i = L.length := (by omega); have hb := HB.out; rw [List.take_length] at hb; clear HB; obtain ⟨w7, rfl⟩ : ∃ W, W = wr := ⟨wr, rfl⟩; have hw7 : w.heap.size ≤ w7.heap.size := (X1.out.tr HX.out).size; have HB := Hd hb; have HW7 := Hd hw7; clear hb hw7
  go_upto_region 12 with (fail)
  clear i1
  go_loopw [11, 12] (fun v11 t12 wr => ∃ (q m : Nat), q ≤ 30000 ∧ t12 = .int .i64 q ∧ m ≤ q ∧ Hid (m = (cdU L q).length) ∧ Hid (wr.ownsRow w7.heap.size 3 1 v11 m ((cdU L q).map (Value.int .i64))) ∧ Hid (Ext w7 wr)) (fun _ t12 _ => 30000 - (intOf t12).toNat)
  case atStart => exact ⟨0, 0, Nat.zero_le _, rfl, Nat.le_refl _, rfl, World.ownsRow_nil _ _ _ _, Below.refl _ _⟩
  case round =>
   obtain ⟨q, m, hq, rfl, hmq, HM, HR, HX2⟩ := hrel; obtain ⟨a11, c11, rfl⟩ := row_form HR.out
   by_cases hlq : q < 30000
   {
   have bt := (HB.out.ext HX2.out).cell (c := q) hlq; have hy := cdU_yes (L := L) (c := q); have hn := cdU_no (L := L) (c := q); obtain ⟨kn, hkn⟩ : ∃ b, seenC L q = b := ⟨_, rfl⟩; rw [hkn] at bt hy hn; have i0 : (0:Int) ≤ (q:Int) := (by omega); have i1 : (q:Int) < 30000 := (by omega); have i2 : (q:Int) < (N30:Int) := (by rw [HN30.out]; omega); clear hkn
   cases kn
   {
   have hnn := hn rfl; clear hy hn; have HN := Hd hnn; clear hnn; go_wp2
   go_roundw
   case rel => exact ⟨q + 1, m, by omega, by go_num, by omega, by rw [HN.out]; exact HM, by rw [HN.out]; exact HR, HX2⟩
   case measure => simp [intOf] <;> omega
   }
   {
   have hyy := hy rfl; have hmm : m + 1 = (cdU L (q + 1)).length := (by rw [hyy, List.length_append, ← HM.out]; rfl); clear hy hn; have HY := Hd hyy; have HMM := Hd hmm; clear hyy hmm
   go_wp2_with (
    at_builtin
    refine wpList_app (n := m) (m := 1) tNums rfl rfl (v := .slice a11 m c11) rfl (owns_ext HR.out (ext_lit _ _ _)) rfl (Src.lit _ [.int .i64 q] 1 1 rfl 3 1) (by simp [Value.oneCell']) (by omega) (Nat.le_trans HX2.out.size (by simp)) ?_; rintro v' w10 t1 t2 t3; have xt := (HX2.out.tr (ext_lit _ _ _)).then_only (only_grown t2) (fun b hb => (HR.out.lt b hb).1); rw [show (cdU L q).map (Value.int .i64) ++ [.int .i64 (q:Int)] = (cdU L (q + 1)).map (Value.int .i64) by rw [HY.out, List.map_append]; rfl] at t1; clear HR HX2 bt t2 t3; have HR := Hd t1; have HX2 := Hd xt
    clear t1 xt)
   go_roundw
   case rel => exact ⟨q + 1, m + 1, by omega, by go_num, by omega, HMM, HR, HX2⟩
   case measure => simp [intOf] <;> omega
   }
   }
   {
   have i1 : decide ((q:Int) < 30000) = false := decide_eq_false (by omega); obtain rfl : q = 30000 := (by omega); have hr := HR.out; rw [HM.out, HALL.out] at hr; have hml : m = (codesS p s).length := (by rw [HM.out, HALL.out]); have HRR := Hd hr; have HML := Hd hml; clear hr hml; go_wp2
   go_ret2
   exact .inr ⟨HE1.out, _, rfl, owns_weak (by rw [HML.out]; exact HRR.out) HW7.out, X1.out.tr (HX.out.tr HX2.out)⟩
   }
  }
 }
 {
 have f1 : (e1 != 0) = true := (by simp [h1]); have hne : stErr p s ≠ 0 := (by rw [HE1.out]; exact h1); clear h1; have HNE := Hd hne; clear hne; go_wp2
 go_ret2
 exact .inl ⟨HNE.out, by rw [HE1.out] <;> rfl, X1.out⟩
 }
theorem share {G T : Prop} (h : T → G) (hT : T) : G := h hT
theorem copyInts_own (xs : List Int) (va : Value) (w : World) (ha : Ints w va xs) (hb : xs.length ≤ 1000000) :
 Calls Tryz.prog 19 #[va] w fun e w' => ∃ v, e = .returned v ∧ Ext w w' ∧ w'.ownsRow w.heap.size 3 1 v xs.length (xs.map (.int .i64)) := by
 go_enter Tryz.func19, Tryz.ntmps19
 go_wp2_with (at_builtin; refine wpList_app tNums rfl rfl (v := .slice none 0 0) rfl (World.ownsRow_nil _ w.heap.size _ _) rfl ha.src (by simp [Value.oneCell']) (by simp; omega) (Nat.le_refl _) ?_; rintro v' w' h1 h2 h3)
 go_ret; refine ⟨v', rfl, (Below.refl _ _).grown h2 (Nat.le_refl _) (by simp [Value.ownBlock]), by simpa using h1⟩
theorem sameInts_eq (xs : List Int) (va vb : Value) (w : World) (ha : Ints w va xs) (hb : Ints w vb xs) :
 Calls Tryz.prog 18 #[va, vb] w fun e w' => e = .returned (.bool true) ∧ Ext w w' := by
 have hx := ha.len; obtain ⟨a, c, rfl, Ha⟩ := ha.form; obtain ⟨b, d, rfl, Hb⟩ := hb.form; clear ha hb; obtain ⟨n, hn⟩ : ∃ n, xs.length = n := ⟨_, rfl⟩; rw [hn] at hx ⊢; have HN := Hd hn; clear hn
 go_enter Tryz.func18, Tryz.ntmps18
 have hne : ((n:Int) != (n:Int)) = false := by simp
 go_upto_region 4 with (fail)
 clear hne
 go_loopw [5] (fun t wr => ∃ k : Nat, k ≤ n ∧ t = .int .i64 k ∧ Hid (Ext w wr)) (fun t _ => n - (intOf t).toNat)
 case atStart => exact ⟨0, Nat.zero_le _, rfl, Below.refl _ _⟩
 case round =>
  obtain ⟨k, hk, rfl, HX⟩ := hrel
  by_cases hlt : k < n
  {
  have hkx : k < xs.length := (by rw [HN.out]; exact hlt); obtain ⟨b1, o1, h1, hc1⟩ := Ha.out.cells (by omega); obtain ⟨b2, o2, h2, hc2⟩ := Hb.out.cells (by omega); subst h1; subst h2; have c1 := HX.out.cellSome (hc1 k hkx); have c2 := HX.out.cellSome (hc2 k hkx); obtain ⟨x, hx⟩ : ∃ x, xs[k] = x := ⟨_, rfl⟩; rw [hx] at c1 c2; clear hc1 hc2 hx; have i1 : (0:Int) ≤ (k:Int) := (by omega); have i2 : (k:Int) < (n:Int) := by omega
  go_upto_region 6 with (fail)
  go_quiet (fail)
  have xq := HX.out.tr (Ext.of_drewN wr nq); generalize wr.drewN nq = wq at *; clear HX; have HX := Hd xq; clear xq; go_wp2
  go_roundw
  case rel => exact ⟨k+1, by omega, by go_num, HX⟩
  case measure => simp [intOf] <;> omega
  }
  { have i2 : decide ((k:Int) < (n:Int)) = false := decide_eq_false (by omega); go_wp2; go_ret; exact ⟨rfl, HX.out⟩ }
/-- The kinds of the steps are small. -/
def KOk (l : List StepD) : Prop := ∀ x ∈ l, 0 ≤ x.kind ∧ x.kind ≤ 12
theorem addStep_kok {p : PressD} {i : Nat} {s : StD} {l : List StepD} {a : Int × Nat} (ha : 0 ≤ a.1 ∧ a.1 ≤ 12) (h : KOk l) : KOk (addStep p i s l a) := by
 unfold addStep
 split
 {
 dsimp only
 split
 · exact h
 {
 intro x hx
 rcases List.mem_append.1 hx with hx | hx
 · exact h x hx
 · rw [List.mem_singleton] at hx; subst hx; exact ha
 }
 }
 · exact h
theorem foldl_kok {p : PressD} {i : Nat} {s : StD} : ∀ (ks : List (Int × Nat)) {l : List StepD}, (∀ a ∈ ks, 0 ≤ a.1 ∧ a.1 ≤ 12) → KOk l → KOk (ks.foldl (addStep p i s) l)
 | [], _, _, h => h
 | k :: ks, _, ha, h => foldl_kok ks (fun a hm => ha a (List.mem_cons_of_mem _ hm)) (addStep_kok (ha k List.mem_cons_self) h)
theorem round_kok (p : PressD) (s : StD) : ∀ i, KOk (roundL p s i)
 | 0 => fun x hx => by unfold roundL at hx; rw [List.mem_singleton] at hx; subst hx; exact ⟨Int.le_refl 0, (by decide : (0:Int) ≤ 12)⟩
 | i + 1 => by
   have ih := round_kok p s i; unfold roundL
   split
   · exact ih
   { unfold expandD; refine foldl_kok _ (fun a ha => ?_) ih; unfold kindsD at ha; simp only [List.mem_flatMap, List.mem_range, List.mem_map] at ha; obtain ⟨k, hk, u, hu, rfl⟩ := ha; dsimp only; omega }
theorem backD_kok {l : List StepD} (h : KOk l) : ∀ (f : Nat) (i : Int), ∀ a ∈ backD l f i, 0 ≤ a.1 ∧ a.1 ≤ 12
 | 0, _, a, ha => by unfold backD at ha; cases ha
 | f + 1, i, a, ha => by
   unfold backD at ha
   split at ha
   · cases ha
   {
   rename_i t ht
   split at ha
   · cases ha
   {
   rcases List.mem_cons.1 ha with rfl | ha
   · exact h t (List.mem_of_getElem? ht)
   · exact backD_kok h f _ a ha
   }
   }
theorem findL_i64 (p : PressD) (s : StD) (g : GoalD) : ∀ a ∈ findL p s g, I64 a.1 := by
 intro a ha; unfold findL at ha
 split at ha
 {
 rename_i he
 have hge : goErr p s g = 0 := by
  unfold fiErr at he
  by_cases h : goErr p s g = 0
  · exact h
  · rw [if_pos h] at he; exact absurd he h
 obtain ⟨gd, _⟩ := goErr_len hge
 rcases seek_round (p := p) (s := s) g gd.dr with ⟨h3, _⟩ | ⟨j, hj, _, _, _, h6⟩
 {
 unfold fiErr at he; rw [if_neg (by rw [hge]; simp), if_pos h3] at he
 cases he
 }
 { rw [h6] at ha; obtain ⟨e, _⟩ := closed_round (p := p) (s := s) gd.dr; unfold byL at ha; rw [e] at ha; have := backD_kok (round_kok p s _) _ _ a (List.mem_reverse.1 ha); exact ⟨by omega, by omega⟩ }
 }
 · cases ha
theorem findL_len (p : PressD) (s : StD) (g : GoalD) : (findL p s g).length ≤ 40000 := by
 unfold findL
 split
 { unfold findD; rw [List.length_reverse]; exact backD_cut _ _ _ }
 · simp
theorem codesS_i64 {p : PressD} {s : StD} (g : Good p s) : ∀ c ∈ codesS p s, I64 c := by
 intro c hc; rw [← cdU_all (closed_all g.dr g.small.1) g.small.1] at hc; unfold cdU at hc; obtain ⟨n, hn, rfl⟩ := List.mem_map.1 hc; have := List.mem_range.1 (List.mem_filter.1 hn).1; exact ⟨by omega, by omega⟩
theorem codesS_le {p : PressD} {s : StD} (g : Good p s) : (codesS p s).length ≤ 30000 := by
 rw [← cdU_all (closed_all g.dr g.small.1) g.small.1]; exact cdU_len _ _
theorem progR_ne2 (p : PressD) : ∀ (l : List (Int × Int)) (s : StD) (i : Nat), (progR p s i l).2.2 ≠ 2
 | [], s, i => by rw [progR_nil]; exact (by decide : (0:Int) ≠ 2)
 | a :: l, s, i => by
   by_cases h : actErr p s a.1 a.2 = 0
   · rw [progR_ok h]; exact progR_ne2 p l _ _
   {
   rw [progR_no h]; dsimp only; unfold actErr
   split
   decide
   {
   split
   decide
   · split <;> decide
   }
   }
set_option maxRecDepth 100000 in
set_option maxHeartbeats 4000000 in
theorem rVerify_any (p : PressD) (s : StD) (g : GoalD) (l : List (Int × Int)) (vj vu vg vl : Value) (w : World) (hj : Truths w vj p.jam) (hu : UnIn w vu s.units) (hg : Truths w vg g.pressed) (hl : s.units.length ≤ 1000000) (hv : AcIn w vl l) :
 Calls Tryz.prog 15 #[pV vj p, sV vu s, gV vg g, vl] w fun e w' => e = .returned (.int .i64 (vfErr p s g l)) ∧ Ext w w' := by
 have haim := fun W (k : Ext w W) => rAimed_any p s g vj vu vg W (Sl.ext hj k) (hu.ext k) (Sl.ext hg k) hl; have hpro := fun W (k : Ext w W) => rProgram_any p s l vj vu vl W (Sl.ext hj k) (hu.ext k) hl (hv.ext k); have hful := fun (t : StD) (va : Value) (h1 : g.pressed.length = t.units.length) (h2 : t.units.length ≤ 1000000) W (k : Ext w W) (h : UnIn W va t.units) => rFulfils_any t g va vg W h (Sl.ext hg k) h1 h2; obtain ⟨a, c, rfl, Hu⟩ := hu.form; obtain ⟨_, aj, cj, hvj, _⟩ := id hj; rw [List.length_map] at hvj; subst hvj; obtain ⟨_, ag, cg, hvg, _⟩ := id hg; rw [List.length_map] at hvg; subst hvg; obtain ⟨al, cl, rfl, HV⟩ := hv.form; clear hj hu hg Hu hv HV; unfold pV sV gV at *; obtain ⟨e1, he1⟩ : ∃ e, goErr p s g = e := ⟨_, rfl⟩; rw [he1] at haim; have HAIM := Hd haim; have HPRO := Hd hpro; have HFUL := Hd hful; have HE1 := Hd he1; have HL := Hd hl; clear haim hpro hful he1 hl
 go_enter Tryz.func15, Tryz.ntmps15
 go_upto_region 2 with (first
  | (with_reducible refine wpList_boxA (t := 24) (cs := #[.slice aj p.jam.length cj, .int .i64 p.warm, .int .i64 p.tail, .int .i64 p.dirt]) rfl rfl rfl ?_
     rintro xb w1 hx1 hx2 hx3; have PB := Hd hx1; have X1 := Hd hx2; clear hx1 hx2
     clear hx3)
  | (with_reducible refine wpList_boxA (t := 27) (cs := #[.int .i64 s.drive, .bool s.folder, .slice a s.units.length c, .int .i64 s.fresh]) rfl rfl rfl ?_
     rintro sb w2 hy1 hy2 hy3; have pb2 := PB.out.ext hy2; have x2 := X1.out.tr hy2; clear PB X1; have SB := Hd hy1; have PB := Hd pb2; have X1 := Hd x2; clear hy1 pb2 x2
     clear hy3 hy2)
  | (with_reducible refine wpList_boxA (t := 29) (cs := #[.int .i64 g.drive, .slice ag g.pressed.length cg]) rfl rfl rfl ?_
     rintro gb w3 hy1 hy2 hy3; have pb2 := PB.out.ext hy2; have sb2 := SB.out.ext hy2; have x2 := X1.out.tr hy2; have c1 := pb2.cell; have c2 := sb2.cell; have c3 := hy1.cell; clear PB X1 SB; have GB := Hd hy1; have X1 := Hd x2; have PB := Hd pb2; have SB := Hd sb2; clear hy1 x2 pb2 sb2
     clear hy3 hy2)
  | (go_at_call 37
     refine (HAIM.out _ X1.out).mono ?_; rintro e w4 ⟨rfl, hx⟩; have pb2 := PB.out.ext hx; have sb2 := SB.out.ext hx; have gb2 := GB.out.ext hx; have x2 := X1.out.tr hx; clear c1 c2 c3 PB GB X1 hx HAIM SB; have c1 := pb2.cell; have c2 := sb2.cell; have c3 := gb2.cell; have X1 := Hd x2; have PB := Hd pb2; have SB := Hd sb2; have GB := Hd gb2
     clear x2 pb2 sb2 gb2))
 by_cases h1 : e1 = 0
 {
 subst h1; obtain ⟨gd, hgl, _⟩ := goErr_len HE1.out; have hs0 : stErr p s = 0 := (good_iff p s).2 gd; have hpg : pgErr p s l = if 200 < l.length then 2 else 0 := (by unfold pgErr; rw [if_neg (by rw [hs0]; simp)]); have hvf : vfErr p s g l = if 200 < l.length then 2 else if (progR p s 0 l).2.2 = 0 ∧ fulD g (progR p s 0 l).1 = true then 0 else 7 := (by unfold vfErr; rw [if_neg (by rw [HE1.out]; simp)]); obtain ⟨T, hT⟩ : ∃ T, pgS p s l = T := ⟨_, rfl⟩; obtain ⟨N, hN⟩ : ∃ N, pgN p s l = N := ⟨_, rfl⟩; obtain ⟨E, hE⟩ : ∃ E, pgE p s l = E := ⟨_, rfl⟩; have hpro2 := fun W (k : Ext w W) => HPRO.out W k; rw [hT, hN, hE] at hpro2; have HPRO2 := Hd hpro2; have HT := Hd hT; have HN := Hd hN; have HE := Hd hE; have HPG := Hd hpg; have HVF := Hd hvf; have HGL := Hd hgl; clear hpro2 hT hN hE hpg hvf hgl
 go_upto_region 5 with (first
  | (go_at_call 41
     refine (HPRO2.out _ X1.out).mono ?_; rintro e w5 ⟨vt, rfl, hun, hx, _⟩; obtain ⟨at_, ct, hvt, _⟩ := hun.form; subst hvt; have gb2 := GB.out.ext hx; have x2 := X1.out.tr hx; clear c1 c2 c3 PB GB X1 hx HPRO2 SB HPRO; have X1 := Hd x2; have GB := Hd gb2; have UN := Hd hun
     clear x2 gb2 hun)
  | (with_reducible refine wpList_allocA (t := 27) rfl rfl Tryz.zeroValue27 ?_
     rintro rb w6 hy1 hy2 hy3; have lr : w5.heap.size ≤ rb := hy3; have RB := Hd hy1; have Z := Hd hy2; have LR := Hd lr; clear hy1 hy2 lr
     clear hy3)
  | (with_reducible refine wpList_storeK (ty := 27) (cells := #[.int .i64 T.drive, .bool T.folder, .slice at_ T.units.length ct, .int .i64 T.fresh]) rfl rfl RB.out ?_ ?_ ?_ ?_ ?_ ?_
     rfl; rfl; rfl; rfl; simp [Value.oneCell']; rintro w7 hb7 ho7; have hx := Z.out.then_only ho7 (fun k (e : k = rb) => by rw [e]; exact LR.out); have gb2 := GB.out.ext hx; have x2 := X1.out.tr hx; have un2 := UN.out.ext hx; have c3 := gb2.cell; have c4 := hb7.cell; clear X1 GB UN ho7 hx RB Z; have X1 := Hd x2; have UN := Hd un2; have GB := Hd gb2; have RB := Hd hb7
     clear x2 un2 gb2 hb7))
 by_cases h2 : 200 < l.length
 { have hp2 : pgErr p s l = 2 := (by rw [HPG.out, if_pos h2]); have he : E = 2 := (by rw [← HE.out]; unfold pgE; rw [if_pos (by rw [hp2]; decide), hp2]); subst he; have hv2 : vfErr p s g l = 2 := (by rw [HVF.out, if_pos h2]); clear h2 hp2; have HV2 := Hd hv2; clear hv2; go_wp2; go_ret; exact ⟨by rw [HV2.out] <;> rfl, X1.out⟩ }
 {
 have hp2 : pgErr p s l = 0 := (by rw [HPG.out, if_neg h2]); have he : (progR p s 0 l).2.2 = E := (by rw [← HE.out]; unfold pgE; rw [if_neg (by rw [hp2]; decide)]); have ht : (progR p s 0 l).1 = T := (by rw [← HT.out]; unfold pgS; rw [if_neg (by rw [hp2]; decide)]); have hv2 : vfErr p s g l = if E = 0 ∧ fulD g T = true then 0 else 7 := (by rw [HVF.out, if_neg h2, he, ht]); have hne : E ≠ 2 := (by rw [← he]; exact progR_ne2 p l s 0); have htl : T.units.length = s.units.length := (by rw [← ht]; exact progR_units p l s 0); have f1 : (E == 2) = false := (by simp [hne]); have hfu := fun W (k : Ext w7 W) => HFUL.out T (.slice at_ T.units.length ct) (by rw [htl]; exact HGL.out) (by rw [htl]; exact HL.out) W (X1.out.tr k) (UN.out.ext k); obtain ⟨bb, hbb⟩ : ∃ b, fulD g T = b := ⟨_, rfl⟩; rw [hbb] at hfu hv2; clear h2 hp2 he ht hne htl; have HV2 := Hd hv2; have HFU := Hd hfu; clear hv2 hfu
 by_cases h3 : E = 0
 {
 subst h3; have hv3 := HV2.out; clear HV2; have HV2 := Hd hv3; clear hv3
 cases bb
 {
 go_wp2_with (
  go_at_call 39; refine (HFU.out _ (Below.refl _ _)).mono ?_; rintro e w8 ⟨rfl, hx⟩; have x2 := X1.out.tr hx; clear X1 hx c3 c4 HFU; have X1 := Hd x2
  clear x2)
 go_ret; exact ⟨by rw [HV2.out] <;> rfl, X1.out⟩
 }
 {
 go_wp2_with (
  go_at_call 39; refine (HFU.out _ (Below.refl _ _)).mono ?_; rintro e w8 ⟨rfl, hx⟩; have x2 := X1.out.tr hx; clear X1 hx c3 c4 HFU; have X1 := Hd x2
  clear x2)
 go_ret; exact ⟨by rw [HV2.out] <;> rfl, X1.out⟩
 }
 }
 { have f2 : (E != 0) = true := (by simp [h3]); have hv3 : vfErr p s g l = 7 := (by rw [HV2.out, if_neg (fun h => h3 h.1)]); clear h3 HV2; have HV2 := Hd hv3; clear hv3; go_wp2; go_ret; exact ⟨by rw [HV2.out] <;> rfl, X1.out⟩ }
 }
 }
 { have f1 : (e1 != 0) = true := (by simp [h1]); have hf1 : vfErr p s g l = e1 := (by unfold vfErr; rw [HE1.out, if_pos h1]); clear h1; have HF1 := Hd hf1; clear hf1; go_wp2; go_ret; exact ⟨by rw [HF1.out] <;> rfl, X1.out⟩ }
end Go.Proofs.YtojobdffnnibaaaGreat
namespace Go.Proofs.YtojobdffnnibaaaGreat
set_option linter.unusedVariables false
def flU (u : UnitD) : Nat := u.th.toNat + u.cl.toNat + u.pr.toNat
def drN (d : Int) : Nat := if d = 0 then 0 else if d = 1 then 1 else 2
/-- How far the first two towers and the drive are on the way. -/
def phi (s : StD) : Nat := drN s.drive + flU (s.units.getD 0 default) + flU (s.units.getD 1 default)
theorem phi_unit (k : Int) (u : UnitD) : flU (unitD k u) ≤ flU u + 1 := by
 obtain ⟨a, b, c, d, e⟩ := u; unfold unitD flU
 repeat' split
 all_goals cases b <;> cases c <;> cases d <;> simp
theorem phi_act {p : PressD} {s : StD} {k x : Int} (he : actErr p s k x = 0) : phi (actD p s k x) ≤ phi s + 1 := by
 obtain ⟨ha, hd⟩ := act_ok' he; obtain ⟨k1, k2, x1, x2⟩ := err_unit he; rw [hd]; unfold doD
 by_cases h7 : k = 7
 · rw [if_pos h7]
   unfold phi drN; dsimp only; split <;> simp <;> omega
 rw [if_neg h7]
 by_cases h8 : k = 8
 { rw [if_pos h8]; unfold allowD at ha; subst h8; simp at ha; unfold phi drN; dsimp only; rw [ha.1]; simp; omega }
 rw [if_neg h8]
 by_cases h9 : k = 9
 · rw [if_pos h9]
   unfold phi drN; dsimp only; simp; omega
 rw [if_neg h9]
 by_cases h10 : k = 10
 · rw [if_pos h10]; unfold phi; dsimp only; omega
 rw [if_neg h10]
 by_cases h11 : k = 11
 · rw [if_pos h11]; unfold phi; dsimp only; omega
 rw [if_neg h11]; unfold phi; dsimp only; have hu := phi_unit k (s.units.getD x.toNat default)
 have get : ∀ j, (s.units.set x.toNat (unitD k (s.units.getD x.toNat default))).getD j default = if j = x.toNat then unitD k (s.units.getD x.toNat default) else s.units.getD j default := fun j => by
  by_cases hj : j = x.toNat
  · rw [if_pos hj, hj, List.getD_eq_getElem?_getD, List.getElem?_set_self x2, Option.getD_some]
  · rw [if_neg hj, List.getD_eq_getElem?_getD, List.getElem?_set_ne (fun e => hj e.symm), ← List.getD_eq_getElem?_getD]
 rw [get 0, get 1]
 by_cases h0 : 0 = x.toNat
 · rw [if_pos h0, if_neg (by omega), h0]
   omega
 {
 rw [if_neg h0]
 by_cases h1 : 1 = x.toNat
 · rw [if_pos h1, h1]; omega
 · rw [if_neg h1]; omega
 }
theorem phi_run {p : PressD} : ∀ {ac : List (Int × Int)} {s t : StD}, Run p s ac t → phi t ≤ phi s + ac.length
 | [], s, t, h => by have : s = t := h; rw [this]; simp
 | a :: ac, s, t, h => by
   obtain ⟨he, hr⟩ := h; have h1 := phi_run hr; have h2 := phi_act he; rw [List.length_cons]; omega
def p3 : PressD := ⟨[false, false, true], 0, 0, 0⟩
def b3 : StD := beginD p3
def g3 : GoalD := ⟨2, [true, true, false]⟩
def h3 : GoalD := ⟨2, [true, true, true]⟩
theorem p3_ok : pErr p3 = 0 := by decide
theorem b3_good : Good p3 b3 := begin_good p3_ok
theorem b3_prcl : PrCl b3 := by
 intro u hu hp; have : b3.units = [⟨false, false, false, false, 0⟩, ⟨false, false, false, false, 0⟩, ⟨false, false, false, false, 0⟩] := rfl; rw [this] at hu; simp at hu; subst hu
 cases hp
theorem b3_phi : phi b3 = 0 := by kernel_rfl
def ac8 : List (Int × Int) := [(7, 0), (4, 0), (3, 0), (4, 1), (3, 1), (5, 0), (5, 1), (8, 0)]
theorem run8 : Run p3 b3 ac8 (progR p3 b3 0 ac8).1 := prog_run (by kernel_rfl)
theorem ful8 : fulD g3 (progR p3 b3 0 ac8).1 = true := by kernel_rfl
theorem three {t : StD} (h : t.units.length = 3) : t.units = [t.units.getD 0 default, t.units.getD 1 default, t.units.getD 2 default] := by
 obtain ⟨d, f, us, fr⟩ := t; dsimp only at h ⊢
 match us, h with
 | [a, b, c], _ => rfl
theorem g3_phi {t : StD} (g : Good p3 t) (c : PrCl t) (h : fulD g3 t = true) : phi t = 8 := by
 have hl : t.units.length = 3 := g.len; have hu := three hl; unfold fulD at h; rw [Bool.and_eq_true, beq_iff_eq, beq_iff_eq] at h; obtain ⟨hd, hp⟩ := h; rw [hu] at hp; generalize ha : t.units.getD 0 default = a at *; generalize hb : t.units.getD 1 default = b at *; generalize t.units.getD 2 default = e at *; have hp' : [a.pr, b.pr, e.pr] = [true, true, false] := hp; simp only [List.cons.injEq, and_true] at hp'; obtain ⟨pa, pb, _⟩ := hp'; have ma : a ∈ t.units := (by rw [hu]; simp); have mb : b ∈ t.units := (by rw [hu]; simp); have h1 := (g.web a ma pa).1; have h2 := (g.web b mb pb).1; have h3 := c a ma pa; have h4 := c b mb pb; unfold phi; rw [ha, hb]; unfold flU drN; have hd2 : t.drive = 2 := hd; rw [pa, pb, h1, h2, h3, h4, hd2]; rfl
theorem g3_aim : aimedD b3 g3 = true := by kernel_rfl
theorem h3_aim : aimedD b3 h3 = true := by kernel_rfl
theorem g3_err : goErr p3 b3 g3 = 0 := by kernel_rfl
theorem find_len {p : PressD} {s : StD} {gl : GoalD} {n : Nat} {bc : List (Int × Int)} {r : StD} (g : Good p s) (c : PrCl s) (ha : aimedD s gl = true) (hb : Run p s bc r) (hf : fulD gl r = true) (hn : bc.length = n) (hm : ∀ ac t, Run p s ac t → fulD gl t = true → n ≤ ac.length) :
 fiErr p s gl = 0 ∧ (findL p s gl).length = n ∧ vfErr p s gl (findL p s gl) = 0 := by
 have hk := seek_all (p := p) (s := s) gl g.dr g.small.1
 rcases find_facts g c ha with ⟨_, h⟩ | ⟨h1, _, _, _, h5, _⟩
 · have := h _ _ hb
   rw [hf] at this; cases this
 {
 refine ⟨h1, ?_, h5⟩
 have hpos : ¬ (seekD p s gl).2 < 0 := fun hn => by
  have := hk.none_ hn _ _ hb; rw [hf] at this; cases this
 obtain ⟨t, hrun, hful, hmin⟩ := hk.some_ (by omega); have hle := hmin _ _ hb hf; have hfl : findL p s gl = findD p s gl := (by unfold findL; rw [if_pos h1]); have := hm _ _ hrun hful; rw [hfl]; omega
 }
theorem small_find : fiErr p3 b3 g3 = 0 ∧ (findL p3 b3 g3).length = 8 ∧ vfErr p3 b3 g3 (findL p3 b3 g3) = 0 :=
 find_len b3_good b3_prcl g3_aim run8 ful8 rfl fun ac t hr hf => by
  obtain ⟨gt, ct, _⟩ := run_keeps b3_good b3_prcl hr; have hph := phi_run hr; rw [g3_phi gt ct hf, b3_phi] at hph; omega
theorem small_many {l : List (Int × Int)} (h : 200 < l.length) : vfErr p3 b3 g3 l = 2 := by
 unfold vfErr; rw [if_neg (by rw [g3_err]; simp), if_pos h]
theorem small_codes {cs : List Int} (h : 30000 < cs.length) : refD p3 b3 g3 cs = 2 := by
 unfold refD; rw [if_neg (by rw [g3_err]; simp), if_pos h]
theorem h3_never : ∀ ac t, Run p3 b3 ac t → fulD h3 t = false := fun ac t hr => by
 obtain ⟨gt, ct, _, hc⟩ := run_keeps b3_good b3_prcl hr; have hl : t.units.length = 3 := gt.len; have hu := three hl
 have h2 : (t.units.getD 2 default).cl ≠ true := fun h => by
  rcases hc 2 h with h | h
  · exact absurd h (by decide)
  · exact absurd h (by decide)
 rw [Bool.eq_false_iff]; intro h; unfold fulD at h; rw [Bool.and_eq_true, beq_iff_eq, beq_iff_eq] at h; obtain ⟨_, hp⟩ := h; rw [hu] at hp; generalize ha : t.units.getD 2 default = a at *; have hp' : [_, _, a.pr] = [true, true, true] := hp; simp only [List.cons.injEq, and_true] at hp'; have ma : a ∈ t.units := (by rw [hu]; simp); exact h2 (ct a ma hp'.2.2)
theorem small_none : fiErr p3 b3 h3 = 4 := by
 rcases find_facts b3_good b3_prcl h3_aim with ⟨h, _⟩ | ⟨_, ⟨ac, t, hr, hf⟩, _⟩
 · exact h
 · rw [h3_never _ _ hr] at hf; cases hf
theorem small_refute : refD p3 b3 h3 (codesS p3 b3) = 0 := (refute_facts b3_good h3_aim (codesS_perm p3 b3)).1 h3_never
theorem b3_st : stErr p3 b3 = 0 := (good_iff _ _).2 b3_good
end Go.Proofs.YtojobdffnnibaaaGreat