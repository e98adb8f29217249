/- press.Refute. -/
import Derived.Test.YtojobdffnnibaaaGreatJ13
import Derived.Test.YtojobdffnnibaaaGreatJ8
import Derived.Test.YtojobdffnnibaaaGreatJ11
import Derived.Test.YtojobdffnnibaaaGreatPSr0
import Derived.Test.YtojobdffnnibaaaGreatMapB
import Derived.Test.YtojobdffnnibaaaGreatJ15
import Derived.Test.YtojobdffnnibaaaGreatPSearch
namespace Go.Proofs.YtojobdffnnibaaaGreat
open Go.RowKit Go.Shelf
set_option linter.unusedVariables false
set_option linter.unusedSimpArgs false
attribute [local go_sem] Oper.semAt_some
theorem MapB.only {w w' : World} {b n : Nat} {ks : List Int} {S : Nat → Prop} (h : MapB w b n ks) (k : Only S w w') (hs : ¬ S b) : MapB w' b n ks := by
 refine ⟨h.1, ?_⟩; have hb : w'.heap[b]? = w.heap[b]? := k.block b h.lt hs; obtain ⟨es, clock, h1, h2⟩ := h.2; exact ⟨es, clock, hb.trans h1, h2⟩
theorem MapB.lookAny {w : World} {b n : Nat} {ks : List Int} (h : MapB w b n ks) {x : Int} (hx : I64 x) : (Instr.lookup 111 (.map (some b)) (.int .i64 x) false).run Tryz.prog w = .ok (.bool (ks.contains x)) w := by
 by_cases hk : x ∈ ks
 · rw [h.look hk]; simp [hk]
 {
 obtain ⟨v, ps, hrun, hR⟩ := h.2.lookup kInt uMapB (zBool w) (plainElem_bool uBool false) (Maps.keyOf_int_mk uInt (lit_wf hx)); have hno : Maps.has (setB ks) (.int .i64 x) = false := (by rw [has_setB]; simpa using hk); rw [Maps.atKey_of_not_has hno] at hR
 have hv : v = .bool false := by
  have := hR
  cases v <;> simp [plainElem] at this
  all_goals first | (rw [this]) | (simp_all)
 rw [hrun, hv]; simp [hk]
 }
set_option maxRecDepth 100000 in
set_option maxHeartbeats 4000000 in
theorem refute_any (p : PressD) (s : StD) (g : GoalD) (codes : List Int) (vj vu vg vc : Value) (w : World) (hj : Truths w vj p.jam) (hu : UnIn w vu s.units) (hg : Truths w vg g.pressed) (hl : s.units.length ≤ 1000000) (hc : Ints w vc codes) (hI : ∀ c ∈ codes, I64 c) :
 Calls Tryz.prog 20 #[pV vj p, sV vu s, gV vg g, vc] w fun e w' => e = .returned (.int .i64 (refD p s g codes)) ∧ Ext w w' := by
 have hst := fun w1 (k : Ext w w1) => start_any p s vj vu w1 (Sl.ext hj k) (hu.ext k) hl; have haim := fun W mb pb ub c B vj0 (k : Ext w W) (h : MOw B W mb pb ub c p s vj0) => aimed_any W h hl (Sl.ext hg k); have hful := fun W mb pb ub c B vj0 t (k : Ext w W) (h : MOw B W mb pb ub c p t vj0) (hl : t.units.length ≤ 1000000) => fulfils_any W h hl (Sl.ext hg k); obtain ⟨a, c, rfl, Hu⟩ := hu.form; obtain ⟨_, aj, cj, hvj, _⟩ := id hj; rw [List.length_map] at hvj; subst hvj; obtain ⟨_, ag, cg, hvg, _⟩ := id hg; rw [List.length_map] at hvg; subst hvg; have hcl := hc.len; obtain ⟨ac, cc, rfl, HC⟩ := hc.form; obtain ⟨E, hE⟩ : ∃ E, refD p s g codes = E := ⟨_, rfl⟩; rw [hE]; have HI := Hd hI; have HAI := Hd haim; have HFU := Hd hful; have HE := Hd hE; clear hI haim hful hE; clear hu hl hc Hu hg; unfold pV sV gV at *; obtain ⟨e1, he1⟩ : ∃ e, stErr p s = e := ⟨_, rfl⟩; have HST := Hd hst; have HE1 := Hd he1; clear hst he1; refine (callsIn_wide (n := 10)).1 (callsIn_of_wp_marks Tryz.func20 rfl trivial (wpIn_wide.2 ?_) rfl); simp only [Tryz.ntmps20, List.size_toArray, List.length_cons, List.length_nil, Nat.reduceAdd, Nat.reduceSub, Array.replicate_succ, Array.replicate_zero, List.push_toArray, List.append_toArray, List.nil_append, List.cons_append]
 go_upto_region 1 with (first
  | (with_reducible refine wpList_boxA (t := 34) (cs := #[.slice aj p.jam.length cj, .int .i64 p.warm, .int .i64 p.tail, .int .i64 p.dirt]) rfl rfl rfl ?_
     rintro xb w1 hx1 hx2 hx3; have PB := Hd hx1; have X1 := Hd hx2; clear hx1 hx2
     clear hx3)
  | (with_reducible refine wpList_boxA (t := 38) (cs := #[.int .i64 s.drive, .bool s.folder, .slice a s.units.length c, .int .i64 s.fresh]) rfl rfl rfl ?_
     rintro sb w2 hy1 hy2 hy3; have pb2 := PB.out.ext hy2; have x2 := X1.out.tr hy2; clear PB X1; have SB := Hd hy1; have PB := Hd pb2; have X1 := Hd x2; clear hy1 pb2 x2
     clear hy3 hy2)
  | (with_reducible refine wpList_boxA (t := 40) (cs := #[.int .i64 g.drive, .slice ag g.pressed.length cg]) rfl rfl rfl ?_
     rintro gb w3 hy1 hy2 hy3; have pb2 := PB.out.ext hy2; have sb2 := SB.out.ext hy2; have x2 := X1.out.tr hy2; clear PB X1 SB; have GB := Hd hy1; have X1 := Hd x2; have PB := Hd pb2; have SB := Hd sb2; clear hy1 x2 pb2 sb2
     clear hy3 hy2)
  | (with_reducible refine wpList_alloc1 (t := 43) rfl rfl Tryz.zeroValue43 rfl ?_
     rintro rb w4 hy1 hy2 hy3; have c2 := (PB.out.ext hy2).cell; have c3 := (SB.out.ext hy2).cell; have gb2 := GB.out.ext hy2; have lr : w.heap.size ≤ rb := Nat.le_trans X1.out.size hy3; have x2 := X1.out.tr hy2; clear PB X1 SB GB; have GB := Hd gb2; have X1 := Hd x2; have RB := Hd hy1; have LR := Hd lr; clear gb2 x2 hy1 lr
     clear hy3 hy2))
 by_cases h1 : e1 = 0
 {
 subst h1; have hs := fun w1 (k : Ext w w1) => (HST.out w1 k).mono fun e w' (h : StartPost w1 p s _ e w') => (h.resolve_left fun h => h.1 HE1.out).2; obtain ⟨hpe, hsh, hsf⟩ := stErr_ok HE1.out; have huj := shaped_len hsh; have hul : s.units.length ≤ 3 := (by rw [huj]; exact (pErr_len hpe).2); have hup : 1 ≤ s.units.length := (by rw [huj]; exact (pErr_len hpe).1); have hdr := (shaped_nums hsh).1; obtain ⟨ba, hba⟩ : ∃ b, aimedD s g = b := ⟨_, rfl⟩; rw [hba] at HAI; have hve : E = if goErr p s g ≠ 0 then goErr p s g else if 30000 < codes.length then 2 else if codes.contains (codeD s) = false then 7 else if codes.all (refOk p g s.units.length codes) then 0 else 7 := (by rw [← HE.out]; rfl); have hgo : goErr p s g = if ba then 0 else 1 := (by unfold goErr; rw [if_neg (by rw [HE1.out]; simp), hba]); rw [hgo] at hve; have HS := Hd hs; have HUL := Hd hul; have HUJ := Hd huj; have HUP := Hd hup; have HVE := Hd hve; have HDR := Hd hdr; clear hs hul huj hup hve hdr; clear hpe hsh hsf hba hgo HST
 go_upto_region 3 with (
  go_at_call 31; refine (HS.out _ X1.out).mono ?_; rintro e wB ⟨mb, pb, ub, c4, rfl, hmo, hx3⟩; have gb2 := GB.out.ext hx3; have rb2 := RB.out.ext hx3; have lB := GB.out.lt; have lR := RB.out.lt; have lx := X1.out.size; have x2 := X1.out.tr hx3; obtain ⟨B, hBw, hmo2⟩ : ∃ B, w.heap.size ≤ B ∧ MOw B wB mb pb ub c4 p s (.slice aj p.jam.length cj) := ⟨_, lx, hmo⟩; clear c2 c3 GB X1 hx3 HS hmo RB; have kgb := gb2.cell; have GB := Hd gb2; have X1 := Hd x2; have HM := Hd hmo2; have RB := Hd rb2; have LB := Hd lB; have LRB := Hd lR; have LX := Hd lx; have HBW := Hd hBw
  clear gb2 x2 hmo2 rb2 lB lR lx hBw)
 cases ba
 {
 have hfe : E = 1 := HVE.out; subst hfe
 go_wp2_with (first
  | (go_at_call 32
     refine (HAI.out _ _ _ _ _ _ _ X1.out HM.out).mono ?_; rintro e w4 ⟨rfl, hx4⟩; have rb2 := RB.out.ext hx4; have x2 := X1.out.tr hx4; clear X1 HAI kgb RB; have X1 := Hd x2; have RB := Hd rb2
     clear x2 rb2)
  | (with_reducible refine wpList_setK (b := rb) (i := 0) (v := .int .i64 1) rfl rfl RB.out ?_ ?_ ?_ ?_ ?_ ?_ ?_
     rfl; rfl
     · simp
     kernel_rfl; rfl; simp [Value.oneCell']; rintro w5 hb5 ho5; have hb6 : Blk w5 rb #[.int .i64 1] 43 := hb5; have x2 := X1.out.then_only ho5 (fun b (e : b = rb) => by rw [e]; exact LR.out); clear RB X1 hb5 ho5; have RB := Hd hb6; have X1 := Hd x2
     clear hb6 x2))
 refine leaves_marks [] _ List.nodup_nil (fun D hD => by cases hD) (fun w' hw' => ?_); have hrb := RB.out.only hw' (fun h => by cases h); have c0 := hrb.cell 0; have hx9 := X1.out.then_only hw' (fun D hD => by cases hD); refine ⟨.int .i64 1, by simp [results, Tryz.f20, go_sem, c0], rfl, hx9⟩
 }
 {
 have hve2 : E = if 30000 < codes.length then 2 else if codes.contains (codeD s) = false then 7 else if codes.all (refOk p g s.units.length codes) then 0 else 7 := HVE.out; clear HVE; have HVE := Hd hve2; clear hve2
 by_cases h2 : 30000 < codes.length
 {
 have hp2 : E = 2 := (by rw [HVE.out, if_pos h2]); have i1 : (30000:Int) < (codes.length:Int) := (by omega); subst hp2
 go_wp2_with (first
  | (go_at_call 32
     refine (HAI.out _ _ _ _ _ _ _ X1.out HM.out).mono ?_; rintro e w4 ⟨rfl, hx4⟩; have rb2 := RB.out.ext hx4; have x2 := X1.out.tr hx4; clear X1 HAI kgb RB; have X1 := Hd x2; have RB := Hd rb2
     clear x2 rb2)
  | (with_reducible refine wpList_setK (b := rb) (i := 0) (v := .int .i64 2) rfl rfl RB.out ?_ ?_ ?_ ?_ ?_ ?_ ?_
     rfl; rfl
     · simp
     kernel_rfl; rfl; simp [Value.oneCell']; rintro w5 hb5 ho5; have hb6 : Blk w5 rb #[.int .i64 2] 43 := hb5; have x2 := X1.out.then_only ho5 (fun b (e : b = rb) => by rw [e]; exact LR.out); clear RB X1 hb5 ho5; have RB := Hd hb6; have X1 := Hd x2
     clear hb6 x2))
 refine leaves_marks [] _ List.nodup_nil (fun D hD => by cases hD) (fun w' hw' => ?_); have hrb := RB.out.only hw' (fun h => by cases h); have c0 := hrb.cell 0; have hx9 := X1.out.then_only hw' (fun D hD => by cases hD); refine ⟨.int .i64 2, by simp [results, Tryz.f20, go_sem, c0], rfl, hx9⟩
 }
 {
 have i1 : decide ((30000:Int) < (codes.length:Int)) = false := decide_eq_false (by omega); have hcb : codes.length ≤ 30000 := (by omega); have hp2 : E = if codes.contains (codeD s) = false then 7 else if codes.all (refOk p g s.units.length codes) then 0 else 7 := (by rw [HVE.out, if_neg h2]); clear h2 HVE; have HVE := Hd hp2; have HCB := Hd hcb; clear hp2 hcb
 go_upto_region 9 with (first
  | (go_at_call 32
     refine (HAI.out _ _ _ _ _ _ _ X1.out HM.out).mono ?_; rintro e w4 ⟨rfl, hx4⟩; have rb2 := RB.out.ext hx4; have gb2 := GB.out.ext hx4; have hm2 := HM.out.ext hx4; have x2 := X1.out.tr hx4; have y2 : Ext w4 w4 := Below.refl _ _; clear X1 HAI kgb RB GB HM; have X1 := Hd x2; have RB := Hd rb2; have GB := Hd gb2; have HM := Hd hm2; have Y := Hd y2
     clear x2 rb2 gb2 hm2 y2)
  | (with_reducible refine wpList_makeMapK rfl rfl ?_
     rintro qb w6 h1 h2 h3; have y2 := Y.out.tr h2; have lq := h3; clear Y h2 h3; have MB := Hd h1; have Y := Hd y2; have LQ := Hd lq
     clear h1 y2 lq)
  | (with_reducible refine wpList_alloc1 (t := 111) rfl rfl Tryz.zeroValue111 rfl ?_
     rintro tb w7 hx1 hx2 hx3; have mb2 := MB.out.ext hx2; have y2 := Y.out.tr hx2; have lt : w4.heap.size ≤ tb := Nat.le_trans Y.out.size hx3; have ntq : tb ≠ qb := fun e => (by have := MB.out.lt; omega); clear MB Y hx2 hx3; have MB := Hd mb2; have Y := Hd y2; have TB := Hd hx1; have LT := Hd lt; have NTQ := Hd ntq
     clear mb2 y2 hx1 lt ntq)
  | (with_reducible refine wpList_setK (b := tb) (i := 0) (v := .map (some qb)) rfl rfl TB.out ?_ ?_ ?_ ?_ ?_ ?_ ?_
     rfl; rfl
     · simp
     kernel_rfl; rfl; rfl; rintro w8 hb8 ho8; have mb2 := MB.out.only ho8 (fun e => NTQ.out e.symm); have y2 := Y.out.then_only ho8 (fun b (e : b = tb) => by rw [e]; exact LT.out); have hb9 : Blk w8 tb #[.map (some qb)] 111 := hb8; clear MB Y TB hb8 ho8; have MB := Hd mb2; have Y := Hd y2; have TB := Hd hb9
     clear mb2 y2 hb9))
 obtain ⟨w9, hw9⟩ : ∃ W, W = w8 := ⟨_, rfl⟩; clear hw9
 go_upto_region 10 with (fail)
 go_loopw [13, 41] (fun v13 t41 wr => ∃ k : Nat, k ≤ codes.length ∧ t41 = .int .i64 k ∧ Hid (MapB wr qb k (codes.take k)) ∧ Hid (Blk wr tb #[.map (some qb)] 111) ∧ Hid (Ext w4 wr)) (fun _ t41 _ => codes.length - (intOf t41).toNat)
 case atStart => exact ⟨0, Nat.zero_le _, rfl, MB, TB, Y⟩
 case round =>
  clear MB TB Y; obtain ⟨k, hk, rfl, MB, TB, Y⟩ := hrel
  by_cases hlt : k < codes.length
  {
  obtain ⟨b1, o1, hab, hcc⟩ := Ints.cells (HC.out.ext (X1.out.tr Y.out)) (by omega)
  cases hab
  have d0 := hcc k hlt; have hik := HI.out codes[k] (List.getElem_mem hlt); have hsn : codes.take (k + 1) = codes.take k ++ [codes[k]] := List.take_succ_eq_append_getElem hlt; obtain ⟨x, hx⟩ : ∃ x, codes[k] = x := ⟨_, rfl⟩; rw [hx] at d0 hik hsn; have ct := TB.out.cell 0; have i2 : (0:Int) ≤ (k:Int) := (by omega); have i3 : (k:Int) < (codes.length:Int) := (by omega); have hkb := HCB.out; clear hcc hx; have HSN := Hd hsn; have HIK := Hd hik; clear hsn hik
  go_wp2_with (
   refine wpList_putB rfl rfl MB.out ?_ rfl rfl rfl HIK.out ?_; omega; rintro w10 h1 h2; have tb2 := TB.out.only h2 NTQ.out; have y2 := Y.out.then_only h2 (fun b (e : b = qb) => by rw [e]; exact LQ.out); rw [← HSN.out] at h1; clear MB TB Y h2 ct d0; have MB := Hd h1; have TB := Hd tb2; have Y := Hd y2
   clear h1 tb2 y2)
  go_roundw
  case rel => exact ⟨k + 1, by omega, by go_num, MB, TB, Y⟩
  case measure => simp [intOf] <;> omega
  }
  {
  have i3 : decide ((k:Int) < (codes.length:Int)) = false := decide_eq_false (by omega); obtain rfl : k = codes.length := (by omega); have hmb := MB.out; rw [List.take_length] at hmb; clear MB; have htl := HUL.out; have hsc := sit_code HDR.out htl; obtain ⟨R, hR⟩ : ∃ R, codeD s = R := ⟨_, rfl⟩; rw [hR] at hsc; have hve := HVE.out; rw [hR] at hve
  have hR64 : I64 R := by
   obtain ⟨c0, h0, _, _, h3⟩ := dec_code (n := s.units.length) (t := s) ⟨HDR.out, rfl⟩ htl; unfold I64; omega
  have hco := fun W => sitCode_any (sitD s) (sitD_len s) W; rw [hsc] at hco; have hsi := fun W (h : Ext w4 W) => situation_any W (HM.out.ext h) htl; have hlk := fun W (h : Ext wr W) => (hmb.ext h).lookAny hR64; obtain ⟨bc, hbc⟩ : ∃ b, codes.contains R = b := ⟨_, rfl⟩; rw [hbc] at hlk hve; clear hsc HVE; have MB := Hd hmb; have HVE := Hd hve; have HCO := Hd hco; have HSI := Hd hsi; have HLK := Hd hlk; have HBC := Hd hbc; clear hmb hve hco hsi hlk hbc
  go_upto_region 14 with (fail)
  go_cut [53] from 48 to 53 (fun v W => v = .bool (!bc) ∧ Hid (Ext wr W))
  case first =>
   as_aux_lemma =>
    have hS : ∀ W, Ext wr W → (∀ j, W.cell? ⟨tb, j, none⟩ = (#[.map (some qb)] : Array Value)[j]?) := fun W hx => (TB.out.ext hx).cell
    go_region_held3 (fun wx => ∀ j, wx.cell? ⟨tb, j, none⟩ = (#[.map (some qb)] : Array Value)[j]?)
     ((first | exact hS _ (Below.refl _ wr).drew | exact hS _ XS.out | exact hS _ XS2.out))
     ((first
       | (go_at_call 43
          refine (HSI.out _ (Y.out.tr (Below.refl _ wr).drew)).mono ?_; rintro e wb ⟨rfl, hx⟩; have xs : Ext wr wb := Ext.tr (Below.refl _ wr).drew hx; clear HSI hx; have XS := Hd xs
          clear xs)
       | (go_at_call 44
          refine (HCO.out _).mono ?_; rintro e wd ⟨rfl, hx⟩; have xs : Ext wr wd := Ext.tr XS.out hx; have lk := HLK.out _ xs; clear HCO hx HLK; have XS2 := Hd xs
          clear xs)))
    go_wp2; go_meet
    case rel => exact ⟨by simp, XS2⟩
  case rest =>
  obtain ⟨rfl, XS⟩ := hcut; obtain ⟨w20, rfl⟩ : ∃ W, W = wc := ⟨wc, rfl⟩; have mb2 := MB.out.ext XS.out; have tb2 := TB.out.ext XS.out; have y2 := Y.out.tr XS.out; clear MB TB Y XS HSI HLK HCO; have MB := Hd mb2; have TB := Hd tb2; have Y := Hd y2; clear mb2 tb2 y2
  cases bc
  {
  have hfe : E = 7 := (by rw [HVE.out, if_pos rfl]); subst hfe; have rb2 := RB.out.ext Y.out; have x2 := X1.out.tr Y.out; clear RB X1; have RB := Hd rb2; have X1 := Hd x2; clear rb2 x2
  go_wp2_with (
   (with_reducible refine wpList_setK (b := rb) (i := 0) (v := .int .i64 7) rfl rfl RB.out ?_ ?_ ?_ ?_ ?_ ?_ ?_); rfl; rfl
   · simp
   kernel_rfl; rfl; simp [Value.oneCell']; rintro w5 hb5 ho5; have hb6 : Blk w5 rb #[.int .i64 7] 43 := hb5; have x2 := X1.out.then_only ho5 (fun b (e : b = rb) => by rw [e]; exact LR.out); clear RB X1 hb5 ho5; have RB := Hd hb6; have X1 := Hd x2
   clear hb6 x2)
  refine leaves_marks [] _ List.nodup_nil (fun D hD => by cases hD) (fun w' hw' => ?_); have hrb := RB.out.only hw' (fun h => by cases h); have c0 := hrb.cell 0; have hx9 := X1.out.then_only hw' (fun D hD => by cases hD); refine ⟨.int .i64 7, by simp [results, Tryz.f20, go_sem, c0], rfl, hx9⟩
  }
  {
  have hp2 : E = if codes.all (refOk p g s.units.length codes) then 0 else 7 := (by rw [HVE.out, if_neg (by simp)]); have rb2 := RB.out.ext Y.out; have gb2 := GB.out.ext Y.out; have hm2 := HM.out.ext Y.out; have x2 := X1.out.tr Y.out; clear HVE RB GB HM X1 Y; have HVE := Hd hp2; have RB := Hd rb2; have GB := Hd gb2; have HM := Hd hm2; have X1 := Hd x2; clear hp2 rb2 gb2 hm2 x2; have ct := TB.out.cell 0; have hm0 := HM.out; have x0 := X1.out; have HM0 := Hd hm0; have X0 := Hd x0; clear hm0 x0
  go_wp2_with (
   refine wpList_rangeB rfl rfl MB.out rfl ?_; rintro rg w21 cnt h1 h2 h3 h4; have tb2 := TB.out.ext h3; have rb2 := RB.out.ext h3; have gb2 := GB.out.ext h3; have hm2 := HM.out.ext h3; have x2 := X1.out.tr h3; have nrq : rg ≠ qb := fun e => (by have := MB.out.lt; omega); clear MB TB RB GB HM X1 h3 ct; have RG := Hd h1; have TB := Hd tb2; have RB := Hd rb2; have GB := Hd gb2; have HM := Hd hm2; have X1 := Hd x2; have NRQ := Hd nrq; have LG := Hd h4
   clear h1 tb2 rb2 gb2 hm2 x2 nrq h4)
  -- LOOP
  simp only [kA, kB, kC, kD, kE]; have hf0 : RfI B tb rb gb qb mb pb ub c4 p s (.slice aj p.jam.length cj) (.slice ag g.pressed.length cg) g.drive w w21 := ⟨TB.out, RB.out, GB.out, HM.out, X1.out⟩; have lbr : B ≤ rg := (by have h1 := HM0.out.lm; have h2 := HM0.out.bm.lt; have h3 := LG.out; omega); have lwr : w.heap.size ≤ rg := Nat.le_trans X0.out.size LG.out; have lw21 := X1.out.size; have nrb := RB.out.lt; have nrg := RG.out.lt; have nqb := RG.out.map.lt
  have he7 : ∀ x ∈ codes, refOk p g s.units.length codes x = false → E = 7 := fun x hx h => by
   rw [HVE.out, if_neg]; intro h2; rw [List.all_eq_true] at h2; rw [h2 x hx] at h
   cases h
  have he0 : (∀ x ∈ codes, refOk p g s.units.length codes x = true) → E = 0 := fun h => by
   rw [HVE.out, if_pos]; rw [List.all_eq_true]; exact h
  clear TB RB GB HM X1 HM0 X0 HVE; have HF := Hd hf0; have LBR := Hd lbr; have LWR := Hd lwr; have LW21 := Hd lw21; have NRB := Hd nrb; have NRG := Hd nrg; have NQB := Hd nqb; have HE7 := Hd he7; have HE0 := Hd he0; clear hf0 lbr lwr lw21 nrb nrg nqb he7 he0
  refine wp_loop (fun a' w' => ∃ (done : List Int) (cnt : Nat) (Ds : List Nat) (v14 v15 v16 v17 v18 v56 v57 v58 v59 v60 v61 v62 v63 v64 v65 v66 v67 v68 v69 v70 v71 v72 v73 v74 v75 v76 v77 v78 v79 v80 v81 v82 : Value), Hid (RangeB w' qb rg codes.length codes done cnt) ∧ Hid (∀ x ∈ done, refOk p g s.units.length codes x = true) ∧ Hid (RfI B tb rb gb qb mb pb ub c4 p s (.slice aj p.jam.length cj) (.slice ag g.pressed.length cg) g.drive w w') ∧ Hid (MkI w21.heap.size Ds w') ∧
   a' = { tmps := #[.agg #[.slice aj p.jam.length cj, .int .i64 p.warm, .int .i64 p.tail, .int .i64 p.dirt], .agg #[.int .i64 s.drive, .bool s.folder, .slice a s.units.length c, .int .i64 s.fresh], .agg #[.int .i64 g.drive, .slice ag g.pressed.length cg], .slice ac codes.length cc, .pointer (some ⟨xb, 0, none⟩), .pointer (some ⟨sb, 0, none⟩), .pointer (some ⟨gb, 0, none⟩), undef, .pointer (some ⟨rb, 0, none⟩), .pointer (some ⟨mb, 0, none⟩), .int .i64 0, .pointer (some ⟨tb, 0, none⟩), undef, u13, v14, v15, v16, v17, v18, .tuple #[.pointer (some ⟨mb, 0, none⟩), .int .i64 0], .agg #[.slice aj p.jam.length cj, .int .i64 p.warm, .int .i64 p.tail, .int .i64 p.dirt], .agg #[.int .i64 s.drive, .bool s.folder, .slice a s.units.length c, .int .i64 s.fresh], .tuple #[.pointer (some ⟨mb, 0, none⟩), .int .i64 0], .pointer (some ⟨mb, 0, none⟩), .int .i64 0, .int .i64 0, .bool true, .pointer (some ⟨mb, 0, none⟩), .agg #[.int .i64 g.drive, .slice ag g.pressed.length cg], .int .i64 0, .bool false, .int .i64 0, .bool false, undef, .bool false, .slice ac codes.length cc, .int .i64 codes.length, .bool false, .map (some qb), .slice ac codes.length cc, .int .i64 codes.length, .int .i64 codes.length, .bool false, u43, u44, u45, u46, u47, u48, u49, u50, u51, u52, .bool (!true), .map (some qb), .pointer (some ⟨rg, 0, none⟩), v56, v57, v58, v59, v60, v61, v62, v63, v64, v65, v66, v67, v68, v69, v70, v71, v72, v73, v74, v75, v76, v77, v78, v79, v80, v81, v82], defers := marks Ds }) (fun _ w' => w'.rangeLeft qb rg) ?_ ?_
  · exact ⟨[], cnt, [], _, _, _, _, _, _, _, _, _, _, _, _, _, _, _, _, _, _, _, _, _, _, _, _, _, _, _, _, _, _, _, _, RG, (fun x hx => by cases hx), HF, ⟨⟨Nat.le_refl _, List.nodup_nil⟩, (fun D hD => by cases hD)⟩, rfl⟩
  {
  clear HF RG; intro a1 wr hinv; obtain ⟨done, cnt, Ds, v14, v15, v16, v17, v18, v56, v57, v58, v59, v60, v61, v62, v63, v64, v65, v66, v67, v68, v69, v70, v71, v72, v73, v74, v75, v76, v77, v78, v79, v80, v81, v82, HR, HOK, HF, HDS, rfl⟩ := hinv; dsimp only; have hlf := HR.out.left; have HLF := Hd hlf; clear hlf
  go_wp2_with (first
   | (with_reducible refine wpList_nextB rfl rfl HR.out ?hit ?done ?more
      case hit => rfl
      case' done =>
       intro hall; have HALL := Hd hall; clear hall
      case' more =>
       intro x w22 cnt5 hx1 hx2 hr5 hlt5 ho5 hsz5 hen; have HR5 := Hd hr5; have HX1 := Hd hx1; have HO5 := Hd ho5; have HLT5 := Hd hlt5
       clear hx1 hx2 hr5 ho5 hlt5)
   | (with_reducible refine wpList_setK (b := rb) (i := 0) (v := .int .i64 0) rfl rfl HF.out.r ?_ ?_ ?_ ?_ ?_ ?_ ?_
      rfl; rfl
      · simp
      kernel_rfl; rfl; simp [Value.oneCell']; rintro w50 hb5 ho5; have hb6 : Blk w50 rb #[.int .i64 0] 43 := hb5; have x2 := HF.out.x.then_only ho5 (fun b (e : b = rb) => by rw [e]; exact LR.out); have nrd : ∀ D, w21.heap.size ≤ D → ¬ D = rb := fun D hD e => (by have := NRB.out; omega); have mk2 := HDS.out.only ho5 nrd; clear hb5 ho5 nrd; have FB := Hd hb6; have FX := Hd x2; have FM := Hd mk2
      clear hb6 x2 mk2))
  {
  have hf2 := HF.out.turn HO5.out (fun b (e : b = rg) => by rw [e]; exact ⟨LWR.out, LBR.out, HR.out.obj⟩); have mk2 := HDS.out.only HO5.out (fun D hD (e : D = rg) => by have := NRG.out; omega); have hx64 := HI.out x HX1.out; clear HF HDS HR HO5; have hr6 := HR5.out; clear HR5; have HF := Hd hf2; have HDS := Hd mk2; have HX64 := Hd hx64; have HR := Hd hr6; clear hf2 mk2 hx64 hr6
  by_cases hx0 : x < 0
  {
  have hfe : E = 7 := HE7.out x HX1.out (refOk_neg hx0); subst hfe
  go_wp2_with (first
   | (go_at_call 48
      refine (decoded_any _ HF.out.m HUL.out HUP.out x HX64.out).mono ?_; rintro e w23 h23; obtain ⟨_, rfl, hx⟩ := h23.resolve_right (fun ⟨k, hk, _⟩ => absurd hk (by omega)); have hf2 := HF.out.ext hx; have mk2 := HDS.out.ext hx; clear HF HDS hx; have HF := Hd hf2; have HDS := Hd mk2
      clear hf2 mk2)
   | (with_reducible refine wpList_setK (b := rb) (i := 0) (v := .int .i64 7) rfl rfl HF.out.r ?_ ?_ ?_ ?_ ?_ ?_ ?_
      rfl; rfl
      · simp
      kernel_rfl; rfl; simp [Value.oneCell']; rintro w50 hb5 ho5; have hb6 : Blk w50 rb #[.int .i64 7] 43 := hb5; have x2 := HF.out.x.then_only ho5 (fun b (e : b = rb) => by rw [e]; exact LR.out); have nrd : ∀ D, w21.heap.size ≤ D → ¬ D = rb := fun D hD e => (by have := NRB.out; omega); have mk2 := HDS.out.only ho5 nrd; clear hb5 ho5 nrd; have FB := Hd hb6; have FX := Hd x2; have FM := Hd mk2
      clear hb6 x2 mk2))
  refine leaves_marks Ds _ FM.out.1.2 (fun D hD => (FM.out.2 D hD).2) (fun w' hw' => ?_); obtain ⟨c0, hx9⟩ := leave_at FB.out FX.out LW21.out FM.out hw'; refine ⟨.int .i64 7, by simp [results, Tryz.f20, go_sem, c0], rfl, hx9⟩
  }
  {
  obtain ⟨k, rfl⟩ : ∃ k : Nat, x = k := ⟨x.toNat, by omega⟩; have hq0 := hx0; clear hx0; obtain ⟨dk, hdk⟩ : ∃ b, decOk s.units.length k = b := ⟨_, rfl⟩; obtain ⟨fk, hfk⟩ : ∃ b, fulD g (decD s.units.length k) = b := ⟨_, rfl⟩; have hdl : (decD s.units.length k).units.length ≤ 1000000 := (by rw [(decD_fit _ _).len]; have := HUL.out; omega); have HDK := Hd hdk; have HFK := Hd hfk; have HDL := Hd hdl; clear hdk hfk hdl
  cases dk
  {
  have hfe : E = 7 := HE7.out _ HX1.out (refOk_dec HDK.out); subst hfe
  go_wp2_with (first
   | (go_at_call 48
      refine (decoded_any _ HF.out.m HUL.out HUP.out (k:Int) HX64.out).mono ?_; rintro e w23 (⟨hk, _⟩ | ⟨k', hk, m, u2, rfl, hm, hx⟩)
      · exact absurd hk (by omega)
      obtain rfl : k = k' := (by omega); rw [HDK.out]; have hf2 := HF.out.ext hx; have mk2 := HDS.out.ext hx; have rr2 := HR.out.ext hx; have cg := hf2.g.cell; clear HF HDS hx HR; have HF := Hd hf2; have HDS := Hd mk2; have HM2 := Hd hm; have HR := Hd rr2
      clear hf2 mk2 hm rr2)
   | (with_reducible refine wpList_setK (b := rb) (i := 0) (v := .int .i64 7) rfl rfl HF.out.r ?_ ?_ ?_ ?_ ?_ ?_ ?_
      rfl; rfl
      · simp
      kernel_rfl; rfl; simp [Value.oneCell']; rintro w50 hb5 ho5; have hb6 : Blk w50 rb #[.int .i64 7] 43 := hb5; have x2 := HF.out.x.then_only ho5 (fun b (e : b = rb) => by rw [e]; exact LR.out); have nrd : ∀ D, w21.heap.size ≤ D → ¬ D = rb := fun D hD e => (by have := NRB.out; omega); have mk2 := HDS.out.only ho5 nrd; clear hb5 ho5 nrd; have FB := Hd hb6; have FX := Hd x2; have FM := Hd mk2
      clear hb6 x2 mk2))
  refine leaves_marks Ds _ FM.out.1.2 (fun D hD => (FM.out.2 D hD).2) (fun w' hw' => ?_); obtain ⟨c0, hx9⟩ := leave_at FB.out FX.out LW21.out FM.out hw'; refine ⟨.int .i64 7, by simp [results, Tryz.f20, go_sem, c0], rfl, hx9⟩
  }
  cases fk
  {
  go_wp2_with (first
   | (go_at_call 48
      refine (decoded_any _ HF.out.m HUL.out HUP.out (k:Int) HX64.out).mono ?_; rintro e w23 (⟨hk, _⟩ | ⟨k', hk, m, u2, rfl, hm, hx⟩)
      · exact absurd hk (by omega)
      obtain rfl : k = k' := (by omega); rw [HDK.out]; have hf2 := HF.out.ext hx; have mk2 := HDS.out.ext hx; have rr2 := HR.out.ext hx; have cg := hf2.g.cell; clear HF HDS hx HR; have HF := Hd hf2; have HDS := Hd mk2; have HM2 := Hd hm; have HR := Hd rr2
      clear hf2 mk2 hm rr2)
   | (go_at_call 35
      refine (HFU.out _ _ _ _ _ _ _ _ HF.out.x HM2.out HDL.out).mono ?_; rintro e w24 ⟨rfl, hx⟩; rw [HFK.out]; have hf2 := HF.out.ext hx; have mk2 := HDS.out.ext hx; have rr2 := HR.out.ext hx; have hm3 := HM2.out.ext hx; clear HF HDS hx HR cg HM2; have HF := Hd hf2; have HDS := Hd mk2; have HM2 := Hd hm3; have HR := Hd rr2
      clear hf2 mk2 hm3 rr2)
   | (go_at_call 49
      refine (actions_any _ _).mono ?_; rintro e wx ⟨xb2, rfl, hxb, hlx, hx⟩; have hf2 := HF.out.ext hx; have mk2 := HDS.out.ext hx; have rr2 := HR.out.ext hx; have hm3 := HM2.out.ext hx; clear HF HDS hx HR HM2 hlx; have HF := Hd hf2; have HDS := Hd mk2; have HM2 := Hd hm3; have HR := Hd rr2; have XB := Hd hxb
      clear hf2 mk2 hm3 rr2 hxb))
  have hxs : w21.heap.size ≤ wx.heap.size ∨ True := .inr trivial; have hfd := decD_fit s.units.length k; have hBx : B ≤ wx.heap.size := (by have := HF.out.m.lm; have := HF.out.m.bm.lt; omega); have hwx : w.heap.size ≤ wx.heap.size := HF.out.x.size; have hqx : qb < wx.heap.size := HR.out.map.lt; have hrx : rg < wx.heap.size := HR.out.lt; have hdx : ∀ D ∈ Ds, D < wx.heap.size := fun D hD => (Array.getElem?_eq_some_iff.1 (HDS.out.2 D hD).2).1; have hrd : (RdI B tb rb gb qb rg mb pb ub c4 codes.length m u2 s.units.length xb2 w21.heap.size wx.heap.size cnt5 Ds codes ((k:Int) :: done) p s (decD s.units.length k) (.slice aj p.jam.length cj) (.slice ag g.pressed.length cg) g.drive w) [] wx := ⟨(fun a ha => by cases ha), HR.out, HF.out, ⟨HM2.out, XB.out⟩, HDS.out, hdx⟩; have hLR := LR.out; have hun3 := HUL.out; have FD := Hd hfd; have BX := Hd hBx; have WX := Hd hwx; have QX := Hd hqx; have RX := Hd hrx; have RD := Hd hrd; have DX := Hd hdx; clear hfd hBx hwx hqx hrx hrd hdx
  refine (wpIn_wide (n := 10)).1 (wpIn_rangeStop (by decide) (gf := 77) (lb := #[.pointer (some ⟨xb2, 0, none⟩)]) rfl (enters_of Tryz.func77 (by kernel_rfl) rfl)
   (actions_stops 9 (by decide) (B := B) (mb := m) (pb := pb) (ub := u2) (c := s.units.length) (xb := xb2) (p := p) (t := decD s.units.length k) (vj := .slice aj p.jam.length cj) wx (by rw [FD.out.len]; exact HUL.out) (by rw [FD.out.len]; exact HUJ.out) (by rw [FD.out.len]; exact HUP.out)) (Below.refl _ _) (fun _ => rfl)
   ((RdI B tb rb gb qb rg mb pb ub c4 codes.length m u2 s.units.length xb2 w21.heap.size wx.heap.size cnt5 Ds codes ((k:Int) :: done) p s (decD s.units.length k) (.slice aj p.jam.length cj) (.slice ag g.pressed.length cg) g.drive w)) (RdI.own BX.out WX.out QX.out RX.out) (RxI rb w21.heap.size wx.heap.size Ds E w) (RxI.own WX.out) (fun _ _ h => h.2.2.2.1) RD.out
   (fun sl x a1 W => (RdI B tb rb gb qb rg mb pb ub c4 codes.length m u2 s.units.length xb2 w21.heap.size wx.heap.size cnt5 Ds codes ((k:Int) :: done) p s (decD s.units.length k) (.slice aj p.jam.length cj) (.slice ag g.pressed.length cg) g.drive w) sl W ∧ LiveY B pb p (decD s.units.length k) (.slice aj p.jam.length cj) x W ∧ ∃ (z0 z1 z2 z3 z4 z5 z6 z7 z9 z10 z12 z13 z14 z15 z16 z17 z19 z20 z21 z22 z23 z24 z25 z26 z27 z28 z29 z30 z31 z32 z33 z34 z35 z36 z37 z38 z39 z40 z41 z42 z43 z44 z45 z46 z47 z48 z49 z50 z51 z52 z53 z54 z55 z56 z57 z58 z59 z60 z61 z62 z63 z64 z65 z66 z67 z68 z69 z70 z71 z72 z73 z74 z75 z76 z77 z78 z79 z80 z81 z82 : Value), a1 = { tmps := #[z0, z1, z2, z3, z4, z5, z6, z7, .pointer (some ⟨rb, 0, none⟩), z9, z10, .pointer (some ⟨tb, 0, none⟩), z12, z13, z14, z15, z16, z17, .pointer (some ⟨x.mb, 0, none⟩), z19, z20, z21, z22, z23, z24, z25, z26, z27, z28, z29, z30, z31, z32, z33, z34, z35, z36, z37, z38, z39, z40, z41, z42, z43, z44, z45, z46, z47, z48, z49, z50, z51, z52, z53, z54, z55, z56, z57, z58, z59, z60, z61, z62, z63, z64, z65, z66, z67, z68, z69, z70, z71, z72, z73, z74, z75, z76, z77, z78, z79, z80, z81, z82], defers := [] }) ?rax ?rasg ?rbody ?rdone ?rstop)
  case rax =>
   intro sl x; rintro a1 W W' row ⟨h1, h2, z0, z1, z2, z3, z4, z5, z6, z7, z9, z10, z12, z13, z14, z15, z16, z17, z19, z20, z21, z22, z23, z24, z25, z26, z27, z28, z29, z30, z31, z32, z33, z34, z35, z36, z37, z38, z39, z40, z41, z42, z43, z44, z45, z46, z47, z48, z49, z50, z51, z52, z53, z54, z55, z56, z57, z58, z59, z60, z61, z62, z63, z64, z65, z66, z67, z68, z69, z70, z71, z72, z73, z74, z75, z76, z77, z78, z79, z80, z81, z82, rfl⟩ hgr hr; refine ⟨RdI.own BX.out WX.out QX.out RX.out sl W W' row h1 hgr hr, h2.only (grown_row hgr) (fun b e => ?_), _, _, _, _, _, _, _, _, _, _, _, _, _, _, _, _, _, _, _, _, _, _, _, _, _, _, _, _, _, _, _, _, _, _, _, _, _, _, _, _, _, _, _, _, _, _, _, _, _, _, _, _, _, _, _, _, _, _, _, _, _, _, _, _, _, _, _, _, _, _, _, _, _, _, _, _, _, _, _, _, rfl⟩; obtain ⟨hle, o, h, hc⟩ := hr b e; exact NotM.of_obj h (Nat.le_trans BX.out hle) hc
  case rasg =>
   intro l0 sl x W K hi hr hK; have HI2 := Hd hi; have HR2 := Hd hr; have HK := Hd hK; clear hi hr hK; unfold YA.args; rw [foldl_two]; simp only [List.setIfInBounds_toArray, List.set_cons_zero, List.set_cons_succ]
   gi_wp2
   refine HK.out _ _ (keeps_ext (Below.refl _ _)) ?_; exact ⟨HI2.out, HR2.out, _, _, _, _, _, _, _, _, _, _, _, _, _, _, _, _, _, _, _, _, _, _, _, _, _, _, _, _, _, _, _, _, _, _, _, _, _, _, _, _, _, _, _, _, _, _, _, _, _, _, _, _, _, _, _, _, _, _, _, _, _, _, _, _, _, _, _, _, _, _, _, _, _, _, _, _, _, _, _, _, rfl⟩
  case rbody =>
   intro l1 sl x a1 W hax; obtain ⟨hrd, hy1, z0, z1, z2, z3, z4, z5, z6, z7, z9, z10, z12, z13, z14, z15, z16, z17, z19, z20, z21, z22, z23, z24, z25, z26, z27, z28, z29, z30, z31, z32, z33, z34, z35, z36, z37, z38, z39, z40, z41, z42, z43, z44, z45, z46, z47, z48, z49, z50, z51, z52, z53, z54, z55, z56, z57, z58, z59, z60, z61, z62, z63, z64, z65, z66, z67, z68, z69, z70, z71, z72, z73, z74, z75, z76, z77, z78, z79, z80, z81, z82, rfl⟩ := hax; dsimp only; have hfx : Fit s.units.length x.nx := (by rw [hy1.2.2.1]; exact FD.out.act _ _); have hun2 : x.nx.units.length ≤ 3 := (by rw [hfx.len]; exact HUL.out); have hsc := sit_code hfx.dr hun2; obtain ⟨R, hR⟩ : ∃ R, codeD x.nx = R := ⟨_, rfl⟩; rw [hR] at hsc
   have hR64 : I64 R := by
    obtain ⟨c0, h0, _, _, h3⟩ := dec_code hfx HUL.out; unfold I64; omega
   have hco := fun W => sitCode_any (sitD x.nx) (sitD_len x.nx) W; rw [hsc] at hco; have hsi := fun W' (h : Ext W W') => situation_any W' (hy1.1.ext h) hun2; have hlk := fun W' (h : Ext W W') => (hrd.2.1.map.ext h).lookAny hR64; obtain ⟨bc, hbc⟩ : ∃ b, codes.contains R = b := ⟨_, rfl⟩; rw [hbc] at hlk; have hkd : (x.kind, x.unit) ∈ kindsD s.units.length := kinds_mem hy1.2.2.2.1.1 hy1.2.2.2.1.2 (by rw [← FD.out.len]; exact hy1.2.2.2.2); have hcd : codes.contains (codeD (actD p (decD s.units.length k) x.kind x.unit)) = bc := (by rw [← hy1.2.2.1, hR]; exact hbc); have hae := hy1.2.1; have ct := hrd.2.2.1.t.cell 0; have htb := hrd.2.2.1.t; have y0 : Ext W W.drew := (Below.refl _ W).drew; have hmx : Tryz.prog.follows .mixedOrders = true := (by kernel_rfl); obtain ⟨xk, xu, xm, xub, xc, xn⟩ := x; dsimp only at *; clear hfx hun2 hsc hR hR64 hbc hy1; have RDB := Hd hrd; have HCO := Hd hco; have HSI := Hd hsi; have HLK := Hd hlk; have HKD := Hd hkd; have HCD := Hd hcd; have HAE := Hd hae; have TBB := Hd htb; have Y0 := Hd y0; clear hrd hco hsi hlk hkd hcd hae htb y0
   cases bc
   {
   have hfe : E = 7 := HE7.out _ HX1.out (refOk_act (a := (xk, xu)) HKD.out HAE.out HCD.out); have HFE := Hd hfe; clear hfe
   gi_wp2
   gi_region_with_o (first
    | (refine ⟨trivial, ?_⟩
       gi_at_call 43
       refine (CallsIn.inRound l1 (callsIn_wide.2 (HSI.out _ Y0.out))).mono ?_; rintro e W1 ⟨rfl, hx⟩; have x2 := Y0.out.tr hx; have ct1 := (TBB.out.ext x2).cell 0; clear hx HSI ct; have Y1 := Hd x2
       clear x2)
    | (refine ⟨trivial, ?_⟩
       gi_at_call 44
       refine (CallsIn.inRound l1 (callsIn_wide.2 (HCO.out _))).mono ?_; rintro e W2 ⟨rfl, hx⟩; have x2 := Y1.out.tr hx; have ct2 := (TBB.out.ext x2).cell 0; have lk := HLK.out _ x2; have crb : W2.cell? ⟨rb, 0, none⟩ = some (.int .i64 0) := (RDB.out.2.2.1.r.ext x2).cell 0; have frb := (RDB.out.2.2.1.r.ext x2).free 0; clear hx HCO ct1 HLK; have Y2 := Hd x2
       clear x2))
   all_goals gi_wp2
   all_goals exact RDB.out.ret Y2.out HFE.out LR.out NRB.out
   }
   {
   gi_wp2
   gi_region_with_o (first
    | (refine ⟨trivial, ?_⟩
       gi_at_call 43
       refine (CallsIn.inRound l1 (callsIn_wide.2 (HSI.out _ Y0.out))).mono ?_; rintro e W1 ⟨rfl, hx⟩; have x2 := Y0.out.tr hx; have ct1 := (TBB.out.ext x2).cell 0; clear hx HSI ct; have Y1 := Hd x2
       clear x2)
    | (refine ⟨trivial, ?_⟩
       gi_at_call 44
       refine (CallsIn.inRound l1 (callsIn_wide.2 (HCO.out _))).mono ?_; rintro e W2 ⟨rfl, hx⟩; have x2 := Y1.out.tr hx; have ct2 := (TBB.out.ext x2).cell 0; have lk := HLK.out _ x2; have crb : W2.cell? ⟨rb, 0, none⟩ = some (.int .i64 0) := (RDB.out.2.2.1.r.ext x2).cell 0; have frb := (RDB.out.2.2.1.r.ext x2).free 0; clear hx HCO ct1 HLK; have Y2 := Hd x2
       clear x2))
   all_goals gi_wp2
   all_goals exact RDB.out.more Y2.out HCD.out
   }
  case rdone =>
   intro D W hD hr hdd; have hsn := hr.2.2.2.2.1.snoc hr.2.2.2.2.2 hD HDS.out.1.1 hdd
   have hok : ∀ x ∈ ((k:Int) :: done), refOk p g s.units.length codes x = true := by
    intro x hx
    rcases List.mem_cons.1 hx with rfl | hx
    { have h1 := hr.1; rw [FD.out.len] at h1; exact refOk_yes HDK.out HFK.out h1 }
    · exact HOK.out x hx
   have hms : W.rangeLeft qb rg < wr.rangeLeft qb rg := (by rw [hr.2.1.left, HLF.out]; exact HLT5.out); refine And.intro ?_ hms; exact ⟨(k:Int) :: done, cnt5, D :: Ds, _, _, _, _, _, _, _, _, _, _, _, _, _, _, _, _, _, _, _, _, _, _, _, _, _, _, _, _, _, _, _, _, Hd hr.2.1, Hd hok, Hd hr.2.2.1, Hd hsn, rfl⟩
  case rstop =>
   intro D W hD hr hdd; obtain ⟨hfe, hb6, hx6, hm6, hl6⟩ := hr; have hsn := hm6.snoc hl6 hD HDS.out.1.1 hdd; subst hfe; refine wpIn_wide.2 ?_; have FB := Hd hb6; have FX := Hd hx6; have FM := Hd hsn; clear hb6 hx6 hsn; clear hm6 hl6 hdd; go_wp2; refine leaves_marks (D :: Ds) _ FM.out.1.2 (fun D hD => (FM.out.2 D hD).2) (fun w' hw' => ?_); obtain ⟨c0, hx9⟩ := leave_at FB.out FX.out LW21.out FM.out hw'; refine ⟨.int .i64 7, by simp [results, Tryz.f20, go_sem, c0], rfl, hx9⟩
  }
  {
  have hfe : E = 7 := HE7.out _ HX1.out (refOk_ful HFK.out); subst hfe
  go_wp2_with (first
   | (go_at_call 48
      refine (decoded_any _ HF.out.m HUL.out HUP.out (k:Int) HX64.out).mono ?_; rintro e w23 (⟨hk, _⟩ | ⟨k', hk, m, u2, rfl, hm, hx⟩)
      · exact absurd hk (by omega)
      obtain rfl : k = k' := (by omega); rw [HDK.out]; have hf2 := HF.out.ext hx; have mk2 := HDS.out.ext hx; have rr2 := HR.out.ext hx; have cg := hf2.g.cell; clear HF HDS hx HR; have HF := Hd hf2; have HDS := Hd mk2; have HM2 := Hd hm; have HR := Hd rr2
      clear hf2 mk2 hm rr2)
   | (go_at_call 35
      refine (HFU.out _ _ _ _ _ _ _ _ HF.out.x HM2.out HDL.out).mono ?_; rintro e w24 ⟨rfl, hx⟩; rw [HFK.out]; have hf2 := HF.out.ext hx; have mk2 := HDS.out.ext hx; have rr2 := HR.out.ext hx; have hm3 := HM2.out.ext hx; clear HF HDS hx HR cg HM2; have HF := Hd hf2; have HDS := Hd mk2; have HM2 := Hd hm3; have HR := Hd rr2
      clear hf2 mk2 hm3 rr2)
   | (with_reducible refine wpList_setK (b := rb) (i := 0) (v := .int .i64 7) rfl rfl HF.out.r ?_ ?_ ?_ ?_ ?_ ?_ ?_
      rfl; rfl
      · simp
      kernel_rfl; rfl; simp [Value.oneCell']; rintro w50 hb5 ho5; have hb6 : Blk w50 rb #[.int .i64 7] 43 := hb5; have x2 := HF.out.x.then_only ho5 (fun b (e : b = rb) => by rw [e]; exact LR.out); have nrd : ∀ D, w21.heap.size ≤ D → ¬ D = rb := fun D hD e => (by have := NRB.out; omega); have mk2 := HDS.out.only ho5 nrd; clear hb5 ho5 nrd; have FB := Hd hb6; have FX := Hd x2; have FM := Hd mk2
      clear hb6 x2 mk2))
  refine leaves_marks Ds _ FM.out.1.2 (fun D hD => (FM.out.2 D hD).2) (fun w' hw' => ?_); obtain ⟨c0, hx9⟩ := leave_at FB.out FX.out LW21.out FM.out hw'; refine ⟨.int .i64 7, by simp [results, Tryz.f20, go_sem, c0], rfl, hx9⟩
  }
  }
  }
  { have hfe : E = 0 := HE0.out fun x hx => HOK.out x (HALL.out x hx); subst hfe; refine leaves_marks Ds _ FM.out.1.2 (fun D hD => (FM.out.2 D hD).2) (fun w' hw' => ?_); obtain ⟨c0, hx9⟩ := leave_at FB.out FX.out LW21.out FM.out hw'; refine ⟨.int .i64 0, by simp [results, Tryz.f20, go_sem, c0], rfl, hx9⟩ }
  }
  }
  }
 }
 }
 }
 {
 have hpe : E = e1 := (by rw [← HE.out]; unfold refD goErr; rw [HE1.out, if_pos h1, if_pos h1]); have hs := fun w1 (k : Ext w w1) => (HST.out w1 k).mono fun e w' (h : StartPost w1 p s _ e w') => (h.resolve_right fun h => h1 (HE1.out ▸ h.1)).2; rw [HE1.out] at hs; have f1 : (e1 != 0) = true := (by simp [h1]); have f2 : (e1 == 0) = false := (by simp [h1]); subst hpe; have HS := Hd hs; clear hs
 go_wp2_with (first
  | (go_at_call 31
     refine (HS.out _ X1.out).mono ?_; rintro e w3 ⟨rfl, hx3⟩; have x2 := X1.out.tr hx3; have rb2 := RB.out.ext hx3; clear c2 c3 X1 hx3 HS RB; have X1 := Hd x2; have RB := Hd rb2
     clear x2 rb2)
  | (with_reducible refine wpList_setK (b := rb) (i := 0) (v := .int .i64 E) rfl rfl RB.out ?_ ?_ ?_ ?_ ?_ ?_ ?_
     rfl; rfl
     · simp
     kernel_rfl; rfl; simp [Value.oneCell']; rintro w5 hb5 ho5; have hb6 : Blk w5 rb #[.int .i64 E] 43 := hb5; have x2 := X1.out.then_only ho5 (fun b (e : b = rb) => by rw [e]; exact LR.out); clear RB X1 hb5 ho5; have RB := Hd hb6; have X1 := Hd x2
     clear hb6 x2))
 refine leaves_marks [] _ List.nodup_nil (fun D hD => by cases hD) (fun w' hw' => ?_); have hrb := RB.out.only hw' (fun h => by cases h); have c0 := hrb.cell 0; have hx9 := X1.out.then_only hw' (fun D hD => by cases hD); refine ⟨.int .i64 E, by simp [results, Tryz.f20, go_sem, c0], rfl, hx9⟩
 }
end Go.Proofs.YtojobdffnnibaaaGreat