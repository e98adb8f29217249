/- The reference: Refute. -/
import Derived.Test.YtojobdffnnibaaaGreatLyF
import Derived.Test.YtojobdffnnibaaaGreatJ15
namespace Go.Proofs.YtojobdffnnibaaaGreat
open Go.RowKit
set_option linter.unusedVariables false
set_option linter.unusedSimpArgs false
theorem all_take_succ {α : Type} (f : α → Bool) (l : List α) (k : Nat) (h : k < l.length) : (l.take (k + 1)).all f = ((l.take k).all f && f l[k]) := by
 rw [List.take_succ_eq_append_getElem h, List.all_append]; simp
theorem all_take_no {α : Type} (f : α → Bool) (l : List α) (k : Nat) (h : k < l.length) (hf : f l[k] = false) : l.all f = false := by
 rw [Bool.eq_false_iff]; intro hh; rw [List.all_eq_true] at hh; rw [hh _ (List.getElem_mem h)] at hf; cases hf
theorem rok1_no {g : GoalD} {n : Nat} {c : Int} (h : c < 0 ∨ 30000 ≤ c) : rok1 g n c = false := by
 unfold rok1
 rcases h with h | h
 · rw [decide_eq_false (by omega : ¬ 0 ≤ c)]; rfl
 · rw [decide_eq_false (by omega : ¬ c < 30000)]; simp
theorem rok1_yes {g : GoalD} {n c : Nat} (h : c < 30000) : rok1 g n c = ((codeD (decD n c) == (c:Int)) && safeD (decD n c) && !fulD g (decD n c)) := by
 unfold rok1; rw [decide_eq_true (by omega : (0:Int) ≤ c), decide_eq_true (by omega : (c:Int) < 30000), Int.toNat_natCast]; simp
theorem contains_take {l : List Int} {k : Nat} (h : k < l.length) (c : Int) : (l.take (k + 1)).contains c = ((l.take k).contains c || c == l[k]) := by
 rw [List.take_succ_eq_append_getElem h, Bool.eq_iff_iff]; simp only [List.contains_eq_mem, List.mem_append, List.mem_singleton, Bool.or_eq_true, decide_eq_true_eq, beq_iff_eq]
theorem beq_cast (c q : Nat) : (c == q) = ((c:Int) == (q:Int)) := by
 rw [Bool.eq_iff_iff, beq_iff_eq, beq_iff_eq]; omega
set_option maxRecDepth 100000 in
set_option maxHeartbeats 4000000 in
theorem rRefute_any (p : PressD) (s : StD) (g : GoalD) (codes : List Int) (vj vu vg vc : Value) (w : World) (hj : Truths w vj p.jam) (hu : UnIn w vu s.units) (hg : Truths w vg g.pressed) (hl : s.units.length ≤ 1000000) (hc : Ints w vc codes) :
 Calls Tryz.prog 21 #[pV vj p, sV vu s, gV vg g, vc] w fun e w' => e = .returned (.int .i64 (rrD p s g codes)) ∧ Ext w w' := by
 have haim := fun W (k : Ext w W) => rAimed_any p s g vj vu vg W (Sl.ext hj k) (hu.ext k) (Sl.ext hg k) hl; have hful := fun (t : StD) (va : Value) (h1 : g.pressed.length = t.units.length) (h2 : t.units.length ≤ 1000000) W (k : Ext w W) (h : UnIn W va t.units) => rFulfils_any t g va vg W h (Sl.ext hg k) h1 h2; have hact := fun (t : StD) (gt : Good p t) (k : Int) (u : Nat) (va : Value) W (kx : Ext w W) (ht : UnIn W va t.units) => rAct_any gt k u vj va W (Sl.ext hj kx) ht; have hsit := fun (h3 : p.jam.length ≤ 3) (k : Nat) (hk : k < 30000) W (kx : Ext w W) => rSituation_any p vj k W (Sl.ext hj kx) h3 hk; have hacs := fun (h3 : p.jam.length ≤ 3) W (kx : Ext w W) => rActions_any p vj W (Sl.ext hj kx) h3; have hcs := fun (h3 : s.units.length ≤ 3) (hd : 0 ≤ s.drive ∧ s.drive ≤ 2) W (kx : Ext w W) => rCode0_any s vu W (hu.ext kx) h3 hd; obtain ⟨a, c, rfl, Hu⟩ := hu.form; obtain ⟨_, aj, cj, hvj, _⟩ := id hj; rw [List.length_map] at hvj; subst hvj; obtain ⟨_, ag, cg, hvg, _⟩ := id hg; rw [List.length_map] at hvg; subst hvg; have hcl := hc.len; obtain ⟨ac, cc, rfl, HC⟩ := hc.form; clear hj hu hg Hu hc; unfold pV sV gV at *; obtain ⟨e1, he1⟩ : ∃ e, goErr p s g = e := ⟨_, rfl⟩; rw [he1] at haim; have HAIM := Hd haim; have HFUL := Hd hful; have HACT := Hd hact; have HSIT := Hd hsit; have HACS := Hd hacs; have HCS := Hd hcs; have HE1 := Hd he1; have HL := Hd hl; clear haim hful hact hsit hacs hcs he1 hl
 go_enter Tryz.func21, Tryz.ntmps21
 go_upto_region 2 with (first
  | (with_reducible refine wpList_boxA (t := 24) (cs := #[.slice aj p.jam.length cj, .int .i64 p.warm, .int .i64 p.tail, .int .i64 p.dirt]) rfl rfl rfl ?_
     rintro xb w1 hx1 hx2 hx3; have PB := Hd hx1; have X1 := Hd hx2; clear hx1 hx2
     clear hx3)
  | (with_reducible refine wpList_boxA (t := 27) (cs := #[.int .i64 s.drive, .bool s.folder, .slice a s.units.length c, .int .i64 s.fresh]) rfl rfl rfl ?_
     rintro sb w2 hy1 hy2 hy3; have pb2 := PB.out.ext hy2; have x2 := X1.out.tr hy2; clear PB X1; have SB := Hd hy1; have PB := Hd pb2; have X1 := Hd x2; clear hy1 pb2 x2
     clear hy3 hy2)
  | (with_reducible refine wpList_boxA (t := 29) (cs := #[.int .i64 g.drive, .slice ag g.pressed.length cg]) rfl rfl rfl ?_
     rintro gb w3 hy1 hy2 hy3; have pb2 := PB.out.ext hy2; have sb2 := SB.out.ext hy2; have x2 := X1.out.tr hy2; have c1 := pb2.cell; have c2 := sb2.cell; have c3 := hy1.cell; clear PB X1 SB; have GB := Hd hy1; have X1 := Hd x2; have PB := Hd pb2; have SB := Hd sb2; clear hy1 x2 pb2 sb2
     clear hy3 hy2)
  | (go_at_call 37
     refine (HAIM.out _ X1.out).mono ?_; rintro e w4 ⟨rfl, hx⟩; have pb2 := PB.out.ext hx; have sb2 := SB.out.ext hx; have gb2 := GB.out.ext hx; have x2 := X1.out.tr hx; clear c1 c2 c3 PB GB X1 hx HAIM SB; have X1 := Hd x2; have PB := Hd pb2; have SB := Hd sb2; have GB := Hd gb2
     clear x2 pb2 sb2 gb2))
 by_cases h1 : e1 = 0
 {
 subst h1; obtain ⟨gd, hgl, _⟩ := goErr_len HE1.out; obtain ⟨R, hR⟩ : ∃ R, rrD p s g codes = R := ⟨_, rfl⟩
 have hrr : rrD p s g codes = if 30000 < codes.length then 2 else if codes.all (rok1 g s.units.length) = false then 7 else if codes.contains (codeD s) = false then 7
  else if (List.range 30000).all (fun c => !codes.contains (c:Int) || rok2 p s.units.length codes c) then 0 else 7 := by unfold rrD; rw [if_neg (by rw [HE1.out]; simp)]
 by_cases h2 : 30000 < codes.length
 { have i1 : (30000:Int) < (codes.length:Int) := (by omega); rw [if_pos h2] at hrr; clear h2 hR; have HRR := Hd hrr; clear hrr; go_wp2; go_ret; exact ⟨by rw [HRR.out] <;> rfl, X1.out⟩ }
 {
 have i1 : decide ((30000:Int) < (codes.length:Int)) = false := decide_eq_false (by omega); rw [if_neg h2] at hrr; have hsm := gd.small.1; have hjn : p.jam.length = s.units.length := gd.len.symm; have hdr := gd.dr; obtain ⟨n, hn⟩ : ∃ n, s.units.length = n := ⟨_, rfl⟩; have hsit2 := HSIT.out (by rw [hjn]; exact hsm); have hacs2 := HACS.out (by rw [hjn]; exact hsm); have hcs2 := HCS.out hsm hdr; obtain ⟨q0, hq0, hq0l⟩ := code_lt (⟨hdr, rfl⟩ : Fit s.units.length s) hsm; rw [hq0] at hcs2; rw [hjn] at hsit2 hacs2; have hact2 := fun (c : Nat) (h : safeD (decD s.units.length c) = true) => HACT.out (decD s.units.length c) (dec_good gd h); rw [hn] at hrr hsm hgl hjn hsit2 hacs2 hact2 hcs2; have hful2 := fun (c : Nat) (va : Value) => HFUL.out (decD n c) va (by rw [decD_len]; exact hgl) (by rw [decD_len]; omega); have hcl3 : codes.length ≤ 30000 := (by omega); rw [hgl] at hful2 GB ⊢; rw [hjn] at hact2 PB ⊢; rw [hn] at SB ⊢; have h1n : 1 ≤ n := (by have := gd.small.2; omega); clear hcl h2 hR HACT HSIT HACS HCS HFUL; have HFUL := Hd hful2; have HRR := Hd hrr; have HSIT := Hd hsit2; have HACT := Hd hact2; have HCS := Hd hcs2; have HGL := Hd hgl; have HJN := Hd hjn; have HN := Hd hn; have HACS := Hd hacs2; have HQ0 := Hd hq0; clear hful2 hrr hsit2 hact2 hcs2 hgl hjn hn hacs2 hq0
 go_upto_region 8 with (
  (with_reducible refine wpList_makeBits rfl rfl rfl rfl ?_); rintro tb N30 w6 hN30 hbits hx hlb; have lb : w4.heap.size ≤ tb := hlb; clear hlb; have BI := Hd hbits; have HN30 := Hd hN30; have X46 := Hd hx; have LB := Hd lb
  clear hbits hN30 hx lb)
 have b0 : Bits w6 tb (fun c => (codes.take 0).contains (c:Int)) := BI.out.congr fun c => rfl; clear BI i1; have BI := Hd b0; clear b0
 go_loopw [11] (fun t11 wr => ∃ i : Nat, i ≤ codes.length ∧ t11 = .int .i64 i ∧ Hid ((codes.take i).all (rok1 g n) = true) ∧ Hid (Bits wr tb (fun c => (codes.take i).contains (c:Int))) ∧ Hid (Ext w4 wr)) (fun t11 _ => codes.length - (intOf t11).toNat)
 case atStart => exact ⟨0, Nat.zero_le _, rfl, rfl, BI, X46⟩
 case round =>
  clear BI X46; obtain ⟨i, hi, rfl, HA, HB, HX⟩ := hrel
  by_cases hlt : i < codes.length
  {
  skip
  as_aux_lemma =>
   obtain ⟨b1, o1, rfl, hc1⟩ := HC.out.cells (by omega); have d0 := HX.out.cellSome (X1.out.cellSome (hc1 i hlt)); have hbd := all_take_no (rok1 g n) codes i hlt; have hok := all_take_succ (rok1 g n) codes i hlt; have hcn := fun c => contains_take hlt c; obtain ⟨x, hx⟩ : ∃ x, codes[i] = x := ⟨_, rfl⟩; rw [hx] at d0 hbd hok hcn; have i0 : (0:Int) ≤ (i:Int) := (by omega); have i1 : (i:Int) < (codes.length:Int) := (by omega); clear hc1 hx
   by_cases hx0 : x < 0
   { have hno : rok1 g n x = false := rok1_no (.inl hx0); have hb7 : rrD p s g codes = 7 := (by rw [HRR.out, if_pos (hbd hno)]); clear hno hbd hok hcn; have HB7 := Hd hb7; clear hb7; go_wp2; go_ret; exact ⟨by rw [HB7.out] <;> rfl, X1.out.tr HX.out⟩ }
   have j0 : decide (x < 0) = false := decide_eq_false hx0
   by_cases hx1 : 30000 ≤ x
   { have hno : rok1 g n x = false := rok1_no (.inr hx1); have hb7 : rrD p s g codes = 7 := (by rw [HRR.out, if_pos (hbd hno)]); clear hno hbd hok hcn; have HB7 := Hd hb7; clear hb7; clear hx0; go_wp2; go_ret; exact ⟨by rw [HB7.out] <;> rfl, X1.out.tr HX.out⟩ }
   have j1 : decide (30000 ≤ x) = false := decide_eq_false hx1; obtain ⟨k, rfl⟩ : ∃ k : Nat, x = k := ⟨x.toNat, by omega⟩; have hk : k < 30000 := (by omega); have hsit := HSIT.out k hk; have hry := rok1_yes (g := g) (n := n) hk; have hco := fun (va : Value) W (h : UnIn W va (decD n k).units) => rCode0_any (decD n k) va W h (by rw [decD_len]; exact hsm) (decD_fit n k).dr; have hsf := fun (va : Value) W (h : UnIn W va (decD n k).units) => rSafe_any (decD n k) va W h (by rw [decD_len]; omega); rw [safe_eq _ (decD_fit n k).dr] at hsf; have hfu := fun (va : Value) => HFUL.out k va; obtain ⟨q1, hq1, hq1l⟩ := code_lt (decD_fit n k) hsm; rw [hq1] at hco hry; have hdl := decD_len n k; obtain ⟨D, hD⟩ : ∃ D, decD n k = D := ⟨_, rfl⟩; rw [hD] at hsit hry hco hsf hfu hdl; unfold sV at hco hsf; obtain ⟨b2, hb2⟩ : ∃ b, safeD D = b := ⟨_, rfl⟩; obtain ⟨b3, hb3⟩ : ∃ b, fulD g D = b := ⟨_, rfl⟩; rw [hb2] at hsf hry; rw [hb3] at hfu hry; clear hx0 hx1 hb2 hb3 hq1 hD; have HSK := Hd hsit; have HRY := Hd hry; have HCO := Hd hco; have HSF := Hd hsf; have HFU := Hd hfu; have HDL := Hd hdl; have HBD := Hd hbd; have HOK := Hd hok; have HCN := Hd hcn; clear hsit hry hco hsf hfu hdl hbd hok hcn; have c1 := (PB.out.ext HX.out).cell
   go_upto_region 14 with (first
    | (go_at_call 50
       refine (HSK.out _ (X1.out.tr HX.out)).mono ?_; rintro e wA ⟨v, rfl, hun, hx⟩; obtain ⟨va, ca, hva⟩ := hun.slice HDL.out; subst hva; have x2 := HX.out.tr hx; have hb := HB.out.ext hx; clear d0 c1 HX HB hx HSK; have HX := Hd x2; have HB := Hd hb; have UN := Hd hun
       clear x2 hb hun)
    | (with_reducible refine wpList_allocA (t := 27) rfl rfl Tryz.zeroValue27 ?_
       rintro nb wB hy1 hy2 hy3; have ln : wA.heap.size ≤ nb := hy3; clear hy3; have NB := Hd hy1; have Z := Hd hy2; have LN := Hd ln
       clear hy1 hy2 ln)
    | (with_reducible refine wpList_storeK (ty := 27) (cells := #[.int .i64 D.drive, .bool D.folder, .slice va n ca, .int .i64 D.fresh]) rfl rfl NB.out ?_ ?_ ?_ ?_ ?_ ?_
       rfl; rfl; rfl; rfl; simp [Value.oneCell']; rintro wC hb ho; have hx := Z.out.then_only ho (fun k (e : k = nb) => by rw [e]; exact LN.out); have x2 := HX.out.tr hx; have hb2 := HB.out.ext hx; have un2 := UN.out.ext hx; have c4 := hb.cell; have c3 := (GB.out.ext x2).cell; have y0 : Ext wC wC := Below.refl _ _; clear HX HB UN NB Z ho hx; have HX := Hd x2; have HB := Hd hb2; have UN := Hd un2; have NB := Hd hb; have Y := Hd y0
       clear x2 hb2 un2 hb y0))
   by_cases hqk : q1 = k
   {
   subst hqk; have f1 : ((q1:Int) != (q1:Int)) = false := by simp
   cases b2
   {
   have hno : rok1 g n q1 = false := (by rw [HRY.out]; simp); have hb7 : rrD p s g codes = 7 := (by rw [HRR.out, if_pos (HBD.out hno)]); clear hno; have HB7 := Hd hb7; clear hb7
   go_wp2_with (first
    | (go_at_call 47
       refine (HCO.out _ _ (UN.out.ext Y.out)).mono ?_; rintro e wD ⟨rfl, hx⟩; have y2 := Y.out.tr hx; clear Y hx c3 c4; have c4 := (NB.out.ext y2).cell; have c3 := (GB.out.ext (HX.out.tr y2)).cell; have Y := Hd y2; clear y2
     )
    | (go_at_call 51
       refine (HSF.out _ _ (UN.out.ext Y.out)).mono ?_; rintro e wE ⟨rfl, hx⟩; have y2 := Y.out.tr hx; clear Y hx c3 c4; have c4 := (NB.out.ext y2).cell; have c3 := (GB.out.ext (HX.out.tr y2)).cell; have Y := Hd y2; clear y2
     )
    | (go_at_call 39
       refine (HFU.out _ _ (X1.out.tr (HX.out.tr Y.out)) (UN.out.ext Y.out)).mono ?_; rintro e wF ⟨rfl, hx⟩; have y2 := Y.out.tr hx; clear Y hx c3 c4; have c4 := (NB.out.ext y2).cell; have c3 := (GB.out.ext (HX.out.tr y2)).cell; have Y := Hd y2; clear y2
     )
    )
   go_ret; exact ⟨by rw [HB7.out] <;> rfl, X1.out.tr (HX.out.tr Y.out)⟩
   }
   {
   cases b3
   {
   have hy1 : rok1 g n q1 = true := (by rw [HRY.out]; simp); have hal : (codes.take (i + 1)).all (rok1 g n) = true := (by rw [HOK.out, HA.out, hy1]; rfl); have j2 : (0:Int) ≤ (q1:Int) := (by omega); have j3 : (q1:Int) < (N30:Int) := (by rw [HN30.out]; omega); have hlb := LB.out; clear hy1; have HAL := Hd hal; clear hal
   go_wp2_with (first
    | (go_at_call 47
       refine (HCO.out _ _ (UN.out.ext Y.out)).mono ?_; rintro e wD ⟨rfl, hx⟩; have y2 := Y.out.tr hx; clear Y hx c3 c4; have c4 := (NB.out.ext y2).cell; have c3 := (GB.out.ext (HX.out.tr y2)).cell; have Y := Hd y2; clear y2
     )
    | (go_at_call 51
       refine (HSF.out _ _ (UN.out.ext Y.out)).mono ?_; rintro e wE ⟨rfl, hx⟩; have y2 := Y.out.tr hx; clear Y hx c3 c4; have c4 := (NB.out.ext y2).cell; have c3 := (GB.out.ext (HX.out.tr y2)).cell; have Y := Hd y2; clear y2
     )
    | (go_at_call 39
       refine (HFU.out _ _ (X1.out.tr (HX.out.tr Y.out)) (UN.out.ext Y.out)).mono ?_; rintro e wF ⟨rfl, hx⟩; have y2 := Y.out.tr hx; clear Y hx c3 c4; have c4 := (NB.out.ext y2).cell; have c3 := (GB.out.ext (HX.out.tr y2)).cell; have Y := Hd y2; clear y2
     )
    | (have hb2 := HB.out.ext Y.out
       obtain ⟨bcs, hbc, hbs⟩ := hb2.blk; (with_reducible refine wpList_setK (b := tb) (i := q1) (v := .bool true) rfl rfl hbc ?_ ?_ ?_ ?_ ?_ ?_ ?_); rfl; rfl; omega; rfl; rfl; rfl; rintro wG hb ho
       have bi2 := (hb2.set hbc hb).congr fun c => show ((codes.take i).contains (c:Int) || c == q1) = (codes.take (i + 1)).contains (c:Int) by
        rw [HCN.out, beq_cast c q1]
       have x2 := (HX.out.tr Y.out).then_only ho (fun b (e : b = tb) => by rw [e]; exact hlb); clear hb2 hbc hbs hb ho c3 c4 HX HB UN NB Y; have HX := Hd x2; have HB := Hd bi2
       clear x2 bi2))
   go_roundw
   case rel => exact ⟨i + 1, by omega, by go_num, HAL, HB, HX⟩
   case measure => simp [intOf] <;> omega
   }
   {
   have hno : rok1 g n q1 = false := (by rw [HRY.out]; simp); have hb7 : rrD p s g codes = 7 := (by rw [HRR.out, if_pos (HBD.out hno)]); clear hno; have HB7 := Hd hb7; clear hb7
   go_wp2_with (first
    | (go_at_call 47
       refine (HCO.out _ _ (UN.out.ext Y.out)).mono ?_; rintro e wD ⟨rfl, hx⟩; have y2 := Y.out.tr hx; clear Y hx c3 c4; have c4 := (NB.out.ext y2).cell; have c3 := (GB.out.ext (HX.out.tr y2)).cell; have Y := Hd y2; clear y2
     )
    | (go_at_call 51
       refine (HSF.out _ _ (UN.out.ext Y.out)).mono ?_; rintro e wE ⟨rfl, hx⟩; have y2 := Y.out.tr hx; clear Y hx c3 c4; have c4 := (NB.out.ext y2).cell; have c3 := (GB.out.ext (HX.out.tr y2)).cell; have Y := Hd y2; clear y2
     )
    | (go_at_call 39
       refine (HFU.out _ _ (X1.out.tr (HX.out.tr Y.out)) (UN.out.ext Y.out)).mono ?_; rintro e wF ⟨rfl, hx⟩; have y2 := Y.out.tr hx; clear Y hx c3 c4; have c4 := (NB.out.ext y2).cell; have c3 := (GB.out.ext (HX.out.tr y2)).cell; have Y := Hd y2; clear y2
     )
    )
   go_ret; exact ⟨by rw [HB7.out] <;> rfl, X1.out.tr (HX.out.tr Y.out)⟩
   }
   }
   }
   {
   have f1 : ((q1:Int) != (k:Int)) = true := by simp; omega
   have hno : rok1 g n k = false := by
    rw [HRY.out]; have : ((q1:Int) == (k:Int)) = false := (by simp; omega); rw [this]; rfl
   clear hqk; have hb7 : rrD p s g codes = 7 := (by rw [HRR.out, if_pos (HBD.out hno)]); clear hno; have HB7 := Hd hb7; clear hb7
   go_wp2_with (first
    | (go_at_call 47
       refine (HCO.out _ _ (UN.out.ext Y.out)).mono ?_; rintro e wD ⟨rfl, hx⟩; have y2 := Y.out.tr hx; clear Y hx c3 c4; have c4 := (NB.out.ext y2).cell; have c3 := (GB.out.ext (HX.out.tr y2)).cell; have Y := Hd y2; clear y2
     )
    | (go_at_call 51
       refine (HSF.out _ _ (UN.out.ext Y.out)).mono ?_; rintro e wE ⟨rfl, hx⟩; have y2 := Y.out.tr hx; clear Y hx c3 c4; have c4 := (NB.out.ext y2).cell; have c3 := (GB.out.ext (HX.out.tr y2)).cell; have Y := Hd y2; clear y2
     )
    | (go_at_call 39
       refine (HFU.out _ _ (X1.out.tr (HX.out.tr Y.out)) (UN.out.ext Y.out)).mono ?_; rintro e wF ⟨rfl, hx⟩; have y2 := Y.out.tr hx; clear Y hx c3 c4; have c4 := (NB.out.ext y2).cell; have c3 := (GB.out.ext (HX.out.tr y2)).cell; have Y := Hd y2; clear y2
     )
    )
   go_ret; exact ⟨by rw [HB7.out] <;> rfl, X1.out.tr (HX.out.tr Y.out)⟩
   }
  }
  {
  have i1 : decide ((i:Int) < (codes.length:Int)) = false := decide_eq_false (by omega); obtain rfl : i = codes.length := (by omega); have hal := HA.out; have hb := HB.out; rw [List.take_length] at hal hb; have hrr := HRR.out; rw [if_neg (by rw [hal]; simp), HQ0.out] at hrr; have bt := hb.cell (c := q0) (by omega); obtain ⟨kn, hkn⟩ : ∃ b, codes.contains (q0:Int) = b := ⟨_, rfl⟩; (try dsimp only at bt); rw [hkn] at bt hrr; have j2 : (0:Int) ≤ (q0:Int) := (by omega); have j3 : (q0:Int) < (N30:Int) := (by rw [HN30.out]; omega); have c2 := (SB.out.ext HX.out).cell; clear HB HA hkn HRR; have HRR := Hd hrr; have HB := Hd hb; have HAL := Hd hal; clear hrr hb hal
  cases kn
  {
  have hb7 : rrD p s g codes = 7 := (by rw [HRR.out, if_pos rfl]); have HB7 := Hd hb7; clear hb7
  go_wp2_with (
   go_at_call 47; refine (HCS.out _ (X1.out.tr HX.out)).mono ?_; rintro e wA ⟨rfl, hx⟩; have bt2 := hx.cellSome bt; have x2 := HX.out.tr hx; clear bt HX hx HB c2; have HX := Hd x2
   clear x2)
  go_ret; exact ⟨by rw [HB7.out] <;> rfl, X1.out.tr HX.out⟩
  }
  {
  have hrr := HRR.out; rw [if_neg (by decide)] at hrr; obtain ⟨nk, hnk⟩ : ∃ m, (kindsR n).length = m := ⟨_, rfl⟩
  have hnk36 : nk ≤ 36 := by
   rw [← hnk, ← kR_end]; have h1 := kR_le n 12; omega
  have hacs := HACS.out; rw [hnk] at hacs; clear HRR HACS; have HRR := Hd hrr; have HNK := Hd hnk; have HACS := Hd hacs; clear hrr hnk hacs
  go_upto_region 21 with (first
   | (go_at_call 47
      refine (HCS.out _ (X1.out.tr HX.out)).mono ?_; rintro e wA ⟨rfl, hx⟩; have bt2 := hx.cellSome bt; have x2 := HX.out.tr hx; have hb2 := HB.out.ext hx; clear bt HX HB hx c2 HCS; have c1 := (PB.out.ext x2).cell; have HX := Hd x2; have HB := Hd hb2
      clear x2 hb2)
   | (go_at_call 52
      refine (HACS.out _ (X1.out.tr HX.out)).mono ?_; rintro e wB ⟨vl, rfl, hol, hx⟩; obtain ⟨al, cl, hvl⟩ := row_form hol; subst hvl; have x2 := HX.out.tr hx; have hb2 := HB.out.ext hx; clear HX HB hx c1 HACS bt2; have HX := Hd x2; have HB := Hd hb2; have OL := Hd hol
      clear x2 hb2 hol))
  clear i1
  go_loopw [15] (fun t15 wr => ∃ c : Nat, c ≤ 30000 ∧ t15 = .int .i64 c ∧ Hid (∀ c' : Nat, c' < c → codes.contains (c':Int) = true → rok2 p n codes c' = true) ∧ Hid (Ext wB wr)) (fun t15 _ => 30000 - (intOf t15).toNat)
  case atStart => exact ⟨0, Nat.zero_le _, rfl, (fun c' h => by omega), Below.refl _ _⟩
  case round =>
   obtain ⟨k, hk, rfl, HC2, HX2⟩ := hrel
   by_cases hlk : k < 30000
   {
   skip
   as_aux_lemma =>
    obtain ⟨wo, rfl⟩ : ∃ W, W = wr := ⟨wr, rfl⟩; obtain ⟨kc, hkc⟩ : ∃ b, codes.contains (k:Int) = b := ⟨_, rfl⟩; have i0 : (0:Int) ≤ (k:Int) := (by omega); have i1 : (k:Int) < 30000 := (by omega); have i2 : (k:Int) < (N30:Int) := by rw [HN30.out]; omega
    have btk : wB.cell? ⟨tb, k, none⟩ = some (.bool kc) := by
     have := HB.out.cell (c := k) hlk; (try dsimp only at this); rw [hkc] at this; exact this
    have HKC := Hd hkc; have BT := Hd btk; clear hkc btk
    go_upto_region 24 with (fail)
    go_loopw [16] (fun t16 wr => ∃ q : Nat, q ≤ nk ∧ t16 = .int .i64 q ∧ Hid (kc = true → ∀ j (h : j < (kindsR n).length), j < q → rAct2 p n codes k (kindsR n)[j] = true) ∧ Hid (Ext wB wr)) (fun t16 _ => nk - (intOf t16).toNat)
    case atStart => exact ⟨0, Nat.zero_le _, rfl, (fun _ j _ h => by omega), HX2⟩
    case round =>
     clear HX2; obtain ⟨q, hq, rfl, HQ, HX2⟩ := hrel; have bt3 := HX2.out.cellSome BT.out
     cases kc
     {
     have hc2 : ∀ c' : Nat, c' < k + 1 → codes.contains (c':Int) = true → rok2 p n codes c' = true := fun c' h1 h2 => by
      by_cases e : c' = k
      · subst e; have h3 := HKC.out; rw [h2] at h3; cases h3
      · exact HC2.out c' (by omega) h2
     clear HC2 HQ; have HC2 := Hd hc2; clear hc2; go_wp2
     go_roundw
     case rel => exact ⟨k + 1, by omega, by go_num, HC2, HX2⟩
     case measure => simp [intOf] <;> omega
     }
     {
     by_cases hlq : q < nk
     {
     have hqq : q < (kindsR n).length := (by rw [HNK.out]; exact hlq); obtain ⟨⟨ak, au⟩, hak⟩ : ∃ x, (kindsR n)[q] = x := ⟨_, rfl⟩; obtain ⟨gl, ol, rfl, hcl⟩ := row_cells OL.out (by omega); have e1 : wr.cell? ⟨gl, ol + q * 2, none⟩ = some (.int .i64 ak) := HX2.out.cellSome (hcl _ _ (by rw [(acK_get _ _ hqq).1, hak])); have e2 : wr.cell? ⟨gl, ol + q * 2 + 1, none⟩ = some (.int .i64 (au:Int)) := HX2.out.cellSome (hcl _ _ (by rw [(acK_get _ _ hqq).2, hak]))
     have hsf : safeD (decD n k) = true := by
      have h1 := HAL.out; rw [List.all_eq_true] at h1; have h2 := HKC.out; have h3 := h1 (k:Int) (by simpa using h2); rw [rok1_yes hlk] at h3; simp at h3; exact h3.1.2
     have hsit := HSIT.out k hlk; have hact := fun va W kx hu => HACT.out k hsf ak au va W kx hu; have hra : rAct2 p n codes k (ak, au) = (actErr p (decD n k) ak au != 0 || codes.contains (codeD (actD p (decD n k) ak au))) := rfl; have hau : (actD p (decD n k) ak au).units.length = n := (by rw [actD_units]; exact decD_len n k); have hft : Fit n (actD p (decD n k) ak au) := (decD_fit n k).act ak au; have hdl := decD_len n k; obtain ⟨er, her⟩ : ∃ x, actErr p (decD n k) ak au = x := ⟨_, rfl⟩; obtain ⟨u, hud⟩ : ∃ x, actD p (decD n k) ak au = x := ⟨_, rfl⟩; rw [her, hud] at hact hra; rw [hud] at hau hft; obtain ⟨D, hD⟩ : ∃ D, decD n k = D := ⟨_, rfl⟩; rw [hD] at hsit hact hdl; have j0 : (0:Int) ≤ (q:Int) := (by omega); have j1 : (q:Int) < (nk:Int) := (by omega); have pb4 := PB.out.ext (HX.out.tr HX2.out); have hS : ∀ W, Ext wr W → ((∀ j, W.cell? ⟨xb, j, none⟩ = (#[.slice aj n cj, .int .i64 p.warm, .int .i64 p.tail, .int .i64 p.dirt] : Array Value)[j]?) ∧ W.cell? ⟨gl, ol + q * 2, none⟩ = some (.int .i64 ak) ∧ W.cell? ⟨gl, ol + q * 2 + 1, none⟩ = some (.int .i64 (au:Int))) := fun W hx => ⟨(pb4.ext hx).cell, hx.cellSome e1, hx.cellSome e2⟩; have hxr : ∀ W, Ext wr W → Ext w W := fun W kx => X1.out.tr (HX.out.tr (HX2.out.tr kx))
     have hstep : er ≠ 0 ∨ codes.contains (codeD u) = true → ∀ j (h : j < (kindsR n).length), j < q + 1 → rAct2 p n codes k (kindsR n)[j] = true := fun hor j h hj => by
      by_cases e : j = q
      {
      subst e; rw [hak, hra]
      rcases hor with h1 | h1
      · rw [bne_iff_ne.2 h1]; rfl
      · rw [h1]; simp
      }
      · exact HQ.out rfl j h (by omega)
     have hfail : er = 0 → codes.contains (codeD u) = false → rrD p s g codes = 7 := fun h1 h2 => by
      rw [HRR.out, if_neg]; intro hall; rw [List.all_eq_true] at hall; have h3 := hall k (by simpa using hlk); rw [HKC.out] at h3; have h4 : rok2 p n codes k = true := (by simpa using h3); unfold rok2 at h4; rw [List.all_eq_true] at h4; have h5 := h4 _ (List.getElem_mem hqq); rw [hak, hra, h1, h2] at h5; simp at h5
     clear e1 e2 hcl hak hsf hra hD pb4 her hud; have HSK := Hd hsit; have HACT2 := Hd hact; have HAU := Hd hau; have HFT := Hd hft; have HDL := Hd hdl; have HS := Hd hS; have HXR := Hd hxr; have HSTEP := Hd hstep; have HFAIL := Hd hfail; clear hsit hact hau hft hdl hS hxr hstep hfail
     go_upto_region 26 with (fail)
     clear i0 i1 i2 j0 j1 bt3
     go_cut [17, 18] (fun v17 v18 W => ∃ qb a5 c5, v17 = .pointer (some ⟨qb, 0, none⟩) ∧ v18 = .int .i64 er ∧ Hid (Blk W qb #[.int .i64 u.drive, .bool u.folder, .slice a5 n c5, .int .i64 u.fresh] 27) ∧ Hid (er = 0 → W.ownsRow wr.heap.size 63 5 (.slice a5 n c5) n (uL u.units)) ∧ Hid (Ext wr W))
     case first =>
      as_aux_lemma =>
       have xd : Ext wr wr.drew := (Below.refl _ wr).drew; refine wp_region_K (fun wx => (∀ j, wx.cell? ⟨xb, j, none⟩ = (#[.slice aj n cj, .int .i64 p.warm, .int .i64 p.tail, .int .i64 p.dirt] : Array Value)[j]?) ∧ wx.cell? ⟨gl, ol + q * 2, none⟩ = some (.int .i64 ak) ∧ wx.cell? ⟨gl, ol + q * 2 + 1, none⟩ = some (.int .i64 (au:Int))) 13 (by kernel_rfl) (HS.out _ xd) (fun kh => ?_); generalize wr.drew = wA at *; have XC := Hd xd; clear xd; refine kX 4 kh ?_; simp only [kS]; refine kX 5 kh ?_; simp only [kS]; refine kX 6 kh ?_; simp only [kS]; refine kX 2 kh ?_; simp only [kS]; refine kX 0 kh ?_; simp only [kS]; refine kX 1 kh ?_; simp only [kS]; refine kX 7 kh ?_; simp only [kS]; refine rK [3, 12] ?_; refine xK 3 (fun K hK => ?_) ?_
       {
       refine cK #[.agg #[.slice aj n cj, .int .i64 p.warm, .int .i64 p.tail, .int .i64 p.dirt], .int .i64 k] Tryz.func50 (HSK.out _ (HXR.out _ XC.out)) ?_; rintro e wy ⟨v4, rfl, hun, hx⟩; obtain ⟨a4, c4, hv4⟩ := hun.slice HDL.out; subst hv4; refine ⟨_, rfl, ?_⟩; (try (replace QB := Hd (QB.out.ext hx))); replace XC := Hd (XC.out.tr hx); clear hx; have SU := Hd hun; clear hun; refine kG hK (HS.out _ XC.out) fun kh => ?_; (try simp only [kS]); refine rK [8, 12] ?_; refine xK 8 (fun K hK => ?_) ?_
       {
       refine cK #[.agg #[.slice aj n cj, .int .i64 p.warm, .int .i64 p.tail, .int .i64 p.dirt], .agg #[.int .i64 D.drive, .bool D.folder, .slice a4 n c4, .int .i64 D.fresh], .agg #[.int .i64 ak, .int .i64 (au:Int)]] Tryz.func53 (HACT2.out _ _ (HXR.out _ XC.out) SU.out) ?_; rintro e wy ⟨v6, rfl, hv6, hx, how6⟩; obtain ⟨a5, c5, hvf⟩ := hv6.slice HAU.out; subst hvf; rw [HAU.out] at how6; refine ⟨_, rfl, ?_⟩; have ow : er = 0 → wy.ownsRow wr.heap.size 63 5 (.slice a5 n c5) n (uL u.units) := fun h => owns_weak (how6 h) XC.out.size; have OW := Hd ow; (try (have NE : Hid (er = 0 → ∀ b, (Value.slice a5 n c5).ownBlock = some b → ¬ b = qb) := Hd (fun h b hb e => by have h1 := ((how6 h).lt b hb).1; have h2 := QB.out.lt; omega))); (try (replace QB := Hd (QB.out.ext hx))); replace XC := Hd (XC.out.tr hx); clear hx hv6 how6 ow SU; refine kG hK (HS.out _ XC.out) fun kh => ?_; (try simp only [kS]); refine kX 9 kh ?_; simp only [kS]; refine kX 10 kh ?_; simp only [kS]; refine rK [11, 12] ?_; refine xK 11 (fun K hK => ?_) ?_
       {
       go_simp; refine kG hK (HS.out _ XC.out) fun kh => ?_; (try simp only [kS]); refine rK [12] ?_; refine xK 12 (fun K hK => ?_) ?_
       {
       refine step_allocA (t := 27) rfl rfl Tryz.zeroValue27 ?_; intro qb wy hb hx hl; have LQB := Hd (Nat.le_trans XC.out.size hl); have QB := Hd hb; (try (have NE : Hid (er = 0 → ∀ b, (Value.slice a5 n c5).ownBlock = some b → ¬ b = qb) := Hd (fun h b hb e => by have h1 := ((OW.out h).lt b hb).2; omega))); (try (replace OW := Hd (fun h => owns_ext (OW.out h) hx))); (try (replace SU := Hd (SU.out.ext hx))); clear hb hl; replace XC := Hd (XC.out.tr hx); clear hx; refine kG hK (HS.out _ XC.out) fun kh => ?_; (try simp only [kS]); refine rK [13] ?_; refine xK 13 (fun K hK => ?_) ?_
       {
       refine sK #[.int .i64 u.drive, .bool u.folder, .slice a5 n c5, .int .i64 u.fresh] QB.out ?_; intro wz hb ho; have xc := XC.out.then_only ho (fun b (e : b = qb) => by rw [e]; exact LQB.out); have ow : er = 0 → wz.ownsRow wr.heap.size 63 5 (.slice a5 n c5) n (uL u.units) := fun h => owns_only (OW.out h) ho (NE.out h); clear OW QB XC ho NE; have OW := Hd ow; have QB := Hd hb; have XC := Hd xc; clear ow hb xc; refine kH hK rfl ?_; (try clear kh); (try simp only [kS]); refine rK [14] ?_; refine xK 14 (fun K hK => ?_) ?_
       {
       go_simp; refine kH hK rfl ?_; (try clear kh); (try simp only [kS]); refine dK ?_ _; go_wp2; go_meet
       case rel => exact ⟨qb, a5, c5, rfl, rfl, QB, OW, XC⟩
       }
       exact nK
       }
       exact nK
       }
       exact nK
       }
       refine xK 12 (fun K hK => ?_) ?_
       {
       refine step_allocA (t := 27) rfl rfl Tryz.zeroValue27 ?_; intro qb wy hb hx hl; have LQB := Hd (Nat.le_trans XC.out.size hl); have QB := Hd hb; (try (have NE : Hid (er = 0 → ∀ b, (Value.slice a5 n c5).ownBlock = some b → ¬ b = qb) := Hd (fun h b hb e => by have h1 := ((OW.out h).lt b hb).2; omega))); (try (replace OW := Hd (fun h => owns_ext (OW.out h) hx))); (try (replace SU := Hd (SU.out.ext hx))); clear hb hl; replace XC := Hd (XC.out.tr hx); clear hx; refine kG hK (HS.out _ XC.out) fun kh => ?_; (try simp only [kS]); refine rK [11, 13] ?_; refine xK 11 (fun K hK => ?_) ?_
       {
       go_simp; refine kG hK (HS.out _ XC.out) fun kh => ?_; (try simp only [kS]); refine rK [13] ?_; refine xK 13 (fun K hK => ?_) ?_
       {
       refine sK #[.int .i64 u.drive, .bool u.folder, .slice a5 n c5, .int .i64 u.fresh] QB.out ?_; intro wz hb ho; have xc := XC.out.then_only ho (fun b (e : b = qb) => by rw [e]; exact LQB.out); have ow : er = 0 → wz.ownsRow wr.heap.size 63 5 (.slice a5 n c5) n (uL u.units) := fun h => owns_only (OW.out h) ho (NE.out h); clear OW QB XC ho NE; have OW := Hd ow; have QB := Hd hb; have XC := Hd xc; clear ow hb xc; refine kH hK rfl ?_; (try clear kh); (try simp only [kS]); refine rK [14] ?_; refine xK 14 (fun K hK => ?_) ?_
       {
       go_simp; refine kH hK rfl ?_; (try clear kh); (try simp only [kS]); refine dK ?_ _; go_wp2; go_meet
       case rel => exact ⟨qb, a5, c5, rfl, rfl, QB, OW, XC⟩
       }
       exact nK
       }
       exact nK
       }
       refine xK 13 (fun K hK => ?_) ?_
       {
       refine sK #[.int .i64 u.drive, .bool u.folder, .slice a5 n c5, .int .i64 u.fresh] QB.out ?_; intro wz hb ho; have xc := XC.out.then_only ho (fun b (e : b = qb) => by rw [e]; exact LQB.out); have ow : er = 0 → wz.ownsRow wr.heap.size 63 5 (.slice a5 n c5) n (uL u.units) := fun h => owns_only (OW.out h) ho (NE.out h); clear OW QB XC ho NE; have OW := Hd ow; have QB := Hd hb; have XC := Hd xc; clear ow hb xc; refine kH hK rfl ?_; (try clear kh); (try simp only [kS]); refine rK [11] ?_; refine xK 11 (fun K hK => ?_) ?_
       {
       go_simp; refine kG hK (HS.out _ XC.out) fun kh => ?_; (try simp only [kS]); refine rK [14] ?_; refine xK 14 (fun K hK => ?_) ?_
       {
       go_simp; refine kH hK rfl ?_; (try clear kh); (try simp only [kS]); refine dK ?_ _; go_wp2; go_meet
       case rel => exact ⟨qb, a5, c5, rfl, rfl, QB, OW, XC⟩
       }
       exact nK
       }
       exact nK
       }
       exact nK
       }
       exact nK
       }
       refine xK 12 (fun K hK => ?_) ?_
       {
       refine step_allocA (t := 27) rfl rfl Tryz.zeroValue27 ?_; intro qb wy hb hx hl; have LQB := Hd (Nat.le_trans XC.out.size hl); have QB := Hd hb; (try (have NE : Hid (er = 0 → ∀ b, (Value.slice a5 n c5).ownBlock = some b → ¬ b = qb) := Hd (fun h b hb e => by have h1 := ((OW.out h).lt b hb).2; omega))); (try (replace OW := Hd (fun h => owns_ext (OW.out h) hx))); (try (replace SU := Hd (SU.out.ext hx))); clear hb hl; replace XC := Hd (XC.out.tr hx); clear hx; refine kG hK (HS.out _ XC.out) fun kh => ?_; (try simp only [kS]); refine rK [8] ?_; refine xK 8 (fun K hK => ?_) ?_
       {
       refine cK #[.agg #[.slice aj n cj, .int .i64 p.warm, .int .i64 p.tail, .int .i64 p.dirt], .agg #[.int .i64 D.drive, .bool D.folder, .slice a4 n c4, .int .i64 D.fresh], .agg #[.int .i64 ak, .int .i64 (au:Int)]] Tryz.func53 (HACT2.out _ _ (HXR.out _ XC.out) SU.out) ?_; rintro e wy ⟨v6, rfl, hv6, hx, how6⟩; obtain ⟨a5, c5, hvf⟩ := hv6.slice HAU.out; subst hvf; rw [HAU.out] at how6; refine ⟨_, rfl, ?_⟩; have ow : er = 0 → wy.ownsRow wr.heap.size 63 5 (.slice a5 n c5) n (uL u.units) := fun h => owns_weak (how6 h) XC.out.size; have OW := Hd ow; (try (have NE : Hid (er = 0 → ∀ b, (Value.slice a5 n c5).ownBlock = some b → ¬ b = qb) := Hd (fun h b hb e => by have h1 := ((how6 h).lt b hb).1; have h2 := QB.out.lt; omega))); (try (replace QB := Hd (QB.out.ext hx))); replace XC := Hd (XC.out.tr hx); clear hx hv6 how6 ow SU; refine kG hK (HS.out _ XC.out) fun kh => ?_; (try simp only [kS]); refine kX 9 kh ?_; simp only [kS]; refine kX 10 kh ?_; simp only [kS]; refine rK [11, 13] ?_; refine xK 11 (fun K hK => ?_) ?_
       {
       go_simp; refine kG hK (HS.out _ XC.out) fun kh => ?_; (try simp only [kS]); refine rK [13] ?_; refine xK 13 (fun K hK => ?_) ?_
       {
       refine sK #[.int .i64 u.drive, .bool u.folder, .slice a5 n c5, .int .i64 u.fresh] QB.out ?_; intro wz hb ho; have xc := XC.out.then_only ho (fun b (e : b = qb) => by rw [e]; exact LQB.out); have ow : er = 0 → wz.ownsRow wr.heap.size 63 5 (.slice a5 n c5) n (uL u.units) := fun h => owns_only (OW.out h) ho (NE.out h); clear OW QB XC ho NE; have OW := Hd ow; have QB := Hd hb; have XC := Hd xc; clear ow hb xc; refine kH hK rfl ?_; (try clear kh); (try simp only [kS]); refine rK [14] ?_; refine xK 14 (fun K hK => ?_) ?_
       {
       go_simp; refine kH hK rfl ?_; (try clear kh); (try simp only [kS]); refine dK ?_ _; go_wp2; go_meet
       case rel => exact ⟨qb, a5, c5, rfl, rfl, QB, OW, XC⟩
       }
       exact nK
       }
       exact nK
       }
       refine xK 13 (fun K hK => ?_) ?_
       {
       refine sK #[.int .i64 u.drive, .bool u.folder, .slice a5 n c5, .int .i64 u.fresh] QB.out ?_; intro wz hb ho; have xc := XC.out.then_only ho (fun b (e : b = qb) => by rw [e]; exact LQB.out); have ow : er = 0 → wz.ownsRow wr.heap.size 63 5 (.slice a5 n c5) n (uL u.units) := fun h => owns_only (OW.out h) ho (NE.out h); clear OW QB XC ho NE; have OW := Hd ow; have QB := Hd hb; have XC := Hd xc; clear ow hb xc; refine kH hK rfl ?_; (try clear kh); (try simp only [kS]); refine rK [11] ?_; refine xK 11 (fun K hK => ?_) ?_
       {
       go_simp; refine kG hK (HS.out _ XC.out) fun kh => ?_; (try simp only [kS]); refine rK [14] ?_; refine xK 14 (fun K hK => ?_) ?_
       {
       go_simp; refine kH hK rfl ?_; (try clear kh); (try simp only [kS]); refine dK ?_ _; go_wp2; go_meet
       case rel => exact ⟨qb, a5, c5, rfl, rfl, QB, OW, XC⟩
       }
       exact nK
       }
       exact nK
       }
       exact nK
       }
       exact nK
       }
       exact nK
       }
       refine xK 12 (fun K hK => ?_) ?_
       {
       refine step_allocA (t := 27) rfl rfl Tryz.zeroValue27 ?_; intro qb wy hb hx hl; have LQB := Hd (Nat.le_trans XC.out.size hl); have QB := Hd hb; (try (have NE : Hid (er = 0 → ∀ b, (Value.slice a5 n c5).ownBlock = some b → ¬ b = qb) := Hd (fun h b hb e => by have h1 := ((OW.out h).lt b hb).2; omega))); (try (replace OW := Hd (fun h => owns_ext (OW.out h) hx))); (try (replace SU := Hd (SU.out.ext hx))); clear hb hl; replace XC := Hd (XC.out.tr hx); clear hx; refine kG hK (HS.out _ XC.out) fun kh => ?_; (try simp only [kS]); refine rK [3] ?_; refine xK 3 (fun K hK => ?_) ?_
       {
       refine cK #[.agg #[.slice aj n cj, .int .i64 p.warm, .int .i64 p.tail, .int .i64 p.dirt], .int .i64 k] Tryz.func50 (HSK.out _ (HXR.out _ XC.out)) ?_; rintro e wy ⟨v4, rfl, hun, hx⟩; obtain ⟨a4, c4, hv4⟩ := hun.slice HDL.out; subst hv4; refine ⟨_, rfl, ?_⟩; (try (replace QB := Hd (QB.out.ext hx))); replace XC := Hd (XC.out.tr hx); clear hx; have SU := Hd hun; clear hun; refine kG hK (HS.out _ XC.out) fun kh => ?_; (try simp only [kS]); refine rK [8] ?_; refine xK 8 (fun K hK => ?_) ?_
       {
       refine cK #[.agg #[.slice aj n cj, .int .i64 p.warm, .int .i64 p.tail, .int .i64 p.dirt], .agg #[.int .i64 D.drive, .bool D.folder, .slice a4 n c4, .int .i64 D.fresh], .agg #[.int .i64 ak, .int .i64 (au:Int)]] Tryz.func53 (HACT2.out _ _ (HXR.out _ XC.out) SU.out) ?_; rintro e wy ⟨v6, rfl, hv6, hx, how6⟩; obtain ⟨a5, c5, hvf⟩ := hv6.slice HAU.out; subst hvf; rw [HAU.out] at how6; refine ⟨_, rfl, ?_⟩; have ow : er = 0 → wy.ownsRow wr.heap.size 63 5 (.slice a5 n c5) n (uL u.units) := fun h => owns_weak (how6 h) XC.out.size; have OW := Hd ow; (try (have NE : Hid (er = 0 → ∀ b, (Value.slice a5 n c5).ownBlock = some b → ¬ b = qb) := Hd (fun h b hb e => by have h1 := ((how6 h).lt b hb).1; have h2 := QB.out.lt; omega))); (try (replace QB := Hd (QB.out.ext hx))); replace XC := Hd (XC.out.tr hx); clear hx hv6 how6 ow SU; refine kG hK (HS.out _ XC.out) fun kh => ?_; (try simp only [kS]); refine kX 9 kh ?_; simp only [kS]; refine kX 10 kh ?_; simp only [kS]; refine rK [11, 13] ?_; refine xK 11 (fun K hK => ?_) ?_
       {
       go_simp; refine kG hK (HS.out _ XC.out) fun kh => ?_; (try simp only [kS]); refine rK [13] ?_; refine xK 13 (fun K hK => ?_) ?_
       {
       refine sK #[.int .i64 u.drive, .bool u.folder, .slice a5 n c5, .int .i64 u.fresh] QB.out ?_; intro wz hb ho; have xc := XC.out.then_only ho (fun b (e : b = qb) => by rw [e]; exact LQB.out); have ow : er = 0 → wz.ownsRow wr.heap.size 63 5 (.slice a5 n c5) n (uL u.units) := fun h => owns_only (OW.out h) ho (NE.out h); clear OW QB XC ho NE; have OW := Hd ow; have QB := Hd hb; have XC := Hd xc; clear ow hb xc; refine kH hK rfl ?_; (try clear kh); (try simp only [kS]); refine rK [14] ?_; refine xK 14 (fun K hK => ?_) ?_
       {
       go_simp; refine kH hK rfl ?_; (try clear kh); (try simp only [kS]); refine dK ?_ _; go_wp2; go_meet
       case rel => exact ⟨qb, a5, c5, rfl, rfl, QB, OW, XC⟩
       }
       exact nK
       }
       exact nK
       }
       refine xK 13 (fun K hK => ?_) ?_
       {
       refine sK #[.int .i64 u.drive, .bool u.folder, .slice a5 n c5, .int .i64 u.fresh] QB.out ?_; intro wz hb ho; have xc := XC.out.then_only ho (fun b (e : b = qb) => by rw [e]; exact LQB.out); have ow : er = 0 → wz.ownsRow wr.heap.size 63 5 (.slice a5 n c5) n (uL u.units) := fun h => owns_only (OW.out h) ho (NE.out h); clear OW QB XC ho NE; have OW := Hd ow; have QB := Hd hb; have XC := Hd xc; clear ow hb xc; refine kH hK rfl ?_; (try clear kh); (try simp only [kS]); refine rK [11] ?_; refine xK 11 (fun K hK => ?_) ?_
       {
       go_simp; refine kG hK (HS.out _ XC.out) fun kh => ?_; (try simp only [kS]); refine rK [14] ?_; refine xK 14 (fun K hK => ?_) ?_
       {
       go_simp; refine kH hK rfl ?_; (try clear kh); (try simp only [kS]); refine dK ?_ _; go_wp2; go_meet
       case rel => exact ⟨qb, a5, c5, rfl, rfl, QB, OW, XC⟩
       }
       exact nK
       }
       exact nK
       }
       exact nK
       }
       exact nK
       }
       exact nK
       }
       exact nK
     case rest =>
     obtain ⟨qb, a5, c5, rfl, rfl, QB, OW, XC⟩ := hcut; obtain ⟨wq, rfl⟩ : ∃ W, W = wc := ⟨wc, rfl⟩; have x6 := HX2.out.tr XC.out; have c4 := QB.out.cell; clear HX2; have HX2 := Hd x6; clear x6
     by_cases h9 : er = 0
     {
     subst h9; have ow := OW.out rfl; have hun : UnIn wq (.slice a5 n c5) u.units := UnIn.of_owns (by rw [HAU.out]; exact ow) (by rw [HAU.out]; omega); obtain ⟨q1, hq1, hq1l⟩ := code_lt HFT.out hsm; have hco := fun W (kx : Ext wq W) => rCode0_any u (.slice a5 n c5) W (hun.ext kx) (by rw [HAU.out]; exact hsm) HFT.out.dr; unfold sV at hco; rw [hq1] at hco; have bt : wq.cell? ⟨tb, q1, none⟩ = some (.bool (codes.contains (q1:Int))) := (HB.out.ext HX2.out).cell (c := q1) (by omega); have hstep := HSTEP.out; have hfail := HFAIL.out rfl; rw [hq1] at hstep hfail; obtain ⟨kn, hkn⟩ : ∃ b, codes.contains (q1:Int) = b := ⟨_, rfl⟩; rw [hkn] at bt hstep hfail; have j2 : (0:Int) ≤ (q1:Int) := (by omega); have j3 : (q1:Int) < (N30:Int) := (by rw [HN30.out]; omega); clear ow hun hkn hq1; have HCO := Hd hco; clear hco
     cases kn
     {
     have h7 := hfail rfl; clear hstep hfail; have H7 := Hd h7; clear h7
     go_wp2_with (
      go_at_call 47; refine (HCO.out _ (Below.refl _ _)).mono ?_; rintro e wE ⟨rfl, hx⟩; have bt2 := hx.cellSome bt; have x7 := HX2.out.tr hx; clear bt c4 HX2 hx HCO; have HX2 := Hd x7; clear x7
      )
     go_ret; exact ⟨by rw [H7.out] <;> rfl, X1.out.tr (HX.out.tr HX2.out)⟩
     }
     {
     have hs2 := hstep (.inr rfl); clear hstep hfail; have HS2 := Hd hs2; clear hs2
     go_wp2_with (
      go_at_call 47; refine (HCO.out _ (Below.refl _ _)).mono ?_; rintro e wE ⟨rfl, hx⟩; have bt2 := hx.cellSome bt; have x7 := HX2.out.tr hx; clear bt c4 HX2 hx HCO; have HX2 := Hd x7; clear x7
      )
     go_roundw
     case rel => exact ⟨q + 1, by omega, by go_num, (fun _ => HS2.out), HX2⟩
     case measure => simp [intOf] <;> omega
     }
     }
     {
     have f1 : (er == 0) = false := (by simp [h9]); have hs2 := HSTEP.out (.inl h9); clear h9; have HS2 := Hd hs2; clear hs2; go_wp2
     go_roundw
     case rel => exact ⟨q + 1, by omega, by go_num, (fun _ => HS2.out), HX2⟩
     case measure => simp [intOf] <;> omega
     }
     }
     {
     have j1 : decide ((q:Int) < (nk:Int)) = false := decide_eq_false (by omega)
     have hc2 : ∀ c' : Nat, c' < k + 1 → codes.contains (c':Int) = true → rok2 p n codes c' = true := fun c' h1 h2 => by
      by_cases e : c' = k
      { subst e; unfold rok2; rw [List.all_eq_true]; intro x hx; obtain ⟨j, hj, rfl⟩ := List.mem_iff_getElem.1 hx; exact HQ.out rfl j hj (by have := HNK.out; omega) }
      · exact HC2.out c' (by omega) h2
     clear HC2 HQ; have HC2 := Hd hc2; clear hc2; go_wp2
     go_roundw
     case rel => exact ⟨k + 1, by omega, by go_num, HC2, HX2⟩
     case measure => simp [intOf] <;> omega
     }
     }
   }
   {
   have i1 : decide ((k:Int) < 30000) = false := decide_eq_false (by omega)
   have h0 : rrD p s g codes = 0 := by
    rw [HRR.out, if_pos]; rw [List.all_eq_true]; intro c hc
    by_cases hcc : codes.contains (c:Int) = true
    · rw [HC2.out c (by have := List.mem_range.1 hc; omega) hcc]; simp
    · rw [Bool.eq_false_iff.2 hcc]; rfl
   have H0 := Hd h0; clear h0; go_wp2; go_ret; exact ⟨by rw [H0.out] <;> rfl, X1.out.tr (HX.out.tr HX2.out)⟩
   }
  }
  }
 }
 }
 { have f1 : (e1 != 0) = true := (by simp [h1]); have hf1 : rrD p s g codes = e1 := (by unfold rrD; rw [HE1.out, if_pos h1]); clear h1; have HF1 := Hd hf1; clear hf1; go_wp2; go_ret; exact ⟨by rw [HF1.out] <;> rfl, X1.out⟩ }
end Go.Proofs.YtojobdffnnibaaaGreat