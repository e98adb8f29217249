/- press.Verify. -/
import Derived.Test.YtojobdffnnibaaaGreatPProg
import Derived.Test.YtojobdffnnibaaaGreatJ6
namespace Go.Proofs.YtojobdffnnibaaaGreat
open Go.RowKit
set_option linter.unusedVariables false
set_option linter.unusedSimpArgs false

/-- What Verify answers. -/
def vfErr (p : PressD) (s : StD) (g : GoalD) (l : List (Int × Int)) : Int :=
  if goErr p s g ≠ 0 then goErr p s g else if 200 < l.length then 2 else if (progR p s 0 l).2.2 = 0 ∧ fulD g (progR p s 0 l).1 = true then 0 else 7

set_option maxRecDepth 100000 in
set_option maxHeartbeats 4000000 in
theorem verify_any (p : PressD) (s : StD) (g : GoalD) (l : List (Int × Int)) (vj vu vg vl : Value) (w : World) (hj : Truths w vj p.jam) (hu : UnIn w vu s.units) (hg : Truths w vg g.pressed) (hl : s.units.length ≤ 1000000) (hv : AcIn w vl l) (hk : ∀ a ∈ l, I64 a.1) :
    Calls Tryz.prog 13 #[pV vj p, sV vu s, gV vg g, vl] w fun e w' => e = .returned (.int .i64 (vfErr p s g l)) ∧ Ext w w' := by
  have hst := fun w1 (k : Ext w w1) => start_any p s vj vu w1 (Sl.ext hj k) (hu.ext k) hl
  have haim := fun W mb pb ub c B vj0 (k : Ext w W) (h : MOw B W mb pb ub c p s vj0) => aimed_any W h hl (Sl.ext hg k)
  have hful := fun W mb pb ub c B vj0 t (k : Ext w W) (h : MOw B W mb pb ub c p t vj0) (hl : t.units.length ≤ 1000000) => fulfils_any W h hl (Sl.ext hg k)
  obtain ⟨a, c, rfl, Hu⟩ := hu.form
  obtain ⟨_, aj, cj, hvj, _⟩ := id hj
  rw [List.length_map] at hvj
  subst hvj
  obtain ⟨_, ag, cg, hvg, _⟩ := id hg
  rw [List.length_map] at hvg
  subst hvg
  have hlm := hv.1
  obtain ⟨al, cl, rfl, HV⟩ := hv.form
  obtain ⟨E, hE⟩ : ∃ E, vfErr p s g l = E := ⟨_, rfl⟩
  rw [hE]
  have HK := Lib.hid hk
  have HAI := Lib.hid haim
  have HFU := Lib.hid hful
  clear hk haim hful
  clear hu hl hv Hu hg
  unfold pV sV gV at *
  obtain ⟨e1, he1⟩ : ∃ e, stErr p s = e := ⟨_, rfl⟩
  by_cases h1 : e1 = 0
  · subst h1
    have hs := fun w1 (k : Ext w w1) => (hst w1 k).mono fun e w' (h : StartPost w1 p s _ e w') => (h.resolve_left fun h => h.1 he1).2
    obtain ⟨hpe, hsh, hsf⟩ := stErr_ok he1
    have huj := shaped_len hsh
    have hul : s.units.length ≤ 3 := by rw [huj]; exact (pErr_len hpe).2
    obtain ⟨ba, hba⟩ : ∃ b, aimedD s g = b := ⟨_, rfl⟩
    rw [hba] at HAI
    have hgo : goErr p s g = if ba then 0 else 1 := by unfold goErr; rw [if_neg (by rw [he1]; simp), hba]
    have hve : E = if goErr p s g ≠ 0 then goErr p s g else if 200 < l.length then 2 else if (progR p s 0 l).2.2 = 0 ∧ fulD g (progR p s 0 l).1 = true then 0 else 7 := by rw [← hE]; rfl
    rw [hgo] at hve
    have HS := Lib.hid hs
    have HUL := Lib.hid hul
    have HUJ := Lib.hid huj
    have HVE := Lib.hid hve
    clear hs hul huj hve
    clear hst he1 hpe hsh hsf hba hE hgo
    go_enter Tryz.func13, Tryz.ntmps13
    go_upto_region 1 with (first
      | (with_reducible refine wpList_boxA (t := 34) (cs := #[.slice aj p.jam.length cj, .int .i64 p.warm, .int .i64 p.tail, .int .i64 p.dirt]) rfl rfl rfl ?_
         rintro xb w1 hx1 hx2 hx3
         have PB := Lib.hid hx1
         have X1 := Lib.hid hx2
         clear hx1 hx2
         clear hx3)
      | (with_reducible refine wpList_boxA (t := 38) (cs := #[.int .i64 s.drive, .bool s.folder, .slice a s.units.length c, .int .i64 s.fresh]) rfl rfl rfl ?_
         rintro sb w2 hy1 hy2 hy3
         have pb2 := PB.out.ext hy2
         have x2 := X1.out.tr hy2
         clear PB X1
         have SB := Lib.hid hy1
         have PB := Lib.hid pb2
         have X1 := Lib.hid x2
         clear hy1 pb2 x2
         clear hy3 hy2)
      | (with_reducible refine wpList_boxA (t := 40) (cs := #[.int .i64 g.drive, .slice ag g.pressed.length cg]) rfl rfl rfl ?_
         rintro gb w2 hy1 hy2 hy3
         have c2 := (PB.out.ext hy2).cell
         have c3 := (SB.out.ext hy2).cell
         have x2 := X1.out.tr hy2
         clear PB X1 SB
         have GB := Lib.hid hy1
         have X1 := Lib.hid x2
         clear hy1 x2
         clear hy3 hy2))
    go_upto_region 3 with (
        have hgd := HS.out
        go_at_call 31
        refine (hgd _ X1.out).mono ?_
        rintro e wB ⟨mb, pb, ub, c4, rfl, hmo, hx3⟩
        have gb2 := GB.out.ext hx3
        have lb := GB.out.lt
        have lx := X1.out.size
        have x2 := X1.out.tr hx3
        have hmo2 := hmo
        clear c2 c3 GB X1 hgd hx3 HS hmo
        have kgb := gb2.cell
        have GB := Lib.hid gb2
        have X1 := Lib.hid x2
        have HM := Lib.hid hmo2
        have LX := Lib.hid lx
        have LB := Lib.hid lb
        clear gb2 x2 hmo2 lx lb)
    cases ba
    · have hfe : E = 1 := HVE.out
      have HFE := Lib.hid hfe
      clear hfe
      go_wp2_with (
         have hgd := HAI.out
         go_at_call 32
         refine (hgd _ _ _ _ _ _ _ X1.out HM.out).mono ?_
         rintro e w4 ⟨rfl, hx4⟩
         have x2 := X1.out.tr hx4
         clear hgd X1 HAI kgb
         have X1 := Lib.hid x2
         clear x2)
      go_ret
      exact ⟨by rw [HFE.out] <;> rfl, X1.out⟩
    · have hve2 : E = if 200 < l.length then 2 else if (progR p s 0 l).2.2 = 0 ∧ fulD g (progR p s 0 l).1 = true then 0 else 7 := HVE.out
      clear HVE
      have HVE := Lib.hid hve2
      clear hve2
      by_cases h2 : 200 < l.length
      · have hp2 : E = 2 := by rw [HVE.out, if_pos h2]
        have i1 : (200:Int) < (l.length:Int) := by omega
        have HP2 := Lib.hid hp2
        clear hp2
        go_wp2_with (
           have hgd := HAI.out
           go_at_call 32
           refine (hgd _ _ _ _ _ _ _ X1.out HM.out).mono ?_
           rintro e w4 ⟨rfl, hx4⟩
           have x2 := X1.out.tr hx4
           clear hgd X1 HAI kgb
           have X1 := Lib.hid x2
           clear x2)
        go_ret
        exact ⟨by rw [HP2.out] <;> rfl, X1.out⟩
      · have hp2 : E = if (progR p s 0 l).2.2 = 0 ∧ fulD g (progR p s 0 l).1 = true then 0 else 7 := by rw [HVE.out, if_neg h2]
        have i1 : decide ((200:Int) < (l.length:Int)) = false := decide_eq_false (by omega)
        have i1' : decide (200 < l.length) = false := decide_eq_false (by omega)
        have hll : l.length ≤ 200 := by omega
        have HP2 := Lib.hid hp2
        have HLL := Lib.hid hll
        clear hp2 hll
        clear h2 HVE
        go_upto_region 9 with (
           have hgd := HAI.out
           go_at_call 32
           refine (hgd _ _ _ _ _ _ _ X1.out HM.out).mono ?_
           rintro e w4 ⟨rfl, hx4⟩
           have gb2 := GB.out.ext hx4
           have hm2 := HM.out.ext hx4
           have x2 := X1.out.tr hx4
           clear hgd X1 HAI kgb GB HM
           have X1 := Lib.hid x2
           have GB := Lib.hid gb2
           have HM := Lib.hid hm2
           clear x2 gb2 hm2)
        go_loopw [34] (fun t34 wr => ∃ (k : Nat) (t : StD), k ≤ l.length ∧ t34 = .int .i64 k ∧ t.units.length = s.units.length ∧ Hid (progR p t k (l.drop k) = progR p s 0 l) ∧ Hid (MOw w2.heap.size wr mb pb ub c4 p t (.slice aj p.jam.length cj)) ∧ Hid (Blk wr gb #[.int .i64 g.drive, .slice ag g.pressed.length cg] 40) ∧ Hid (Ext w wr)) (fun t34 _ => l.length - (intOf t34).toNat)
        case atStart => exact ⟨0, s, Nat.zero_le _, rfl, rfl, rfl, HM, GB, X1⟩
        case round =>
          clear i1 i1'
          obtain ⟨k, t, hk, rfl, htu, HPR, HMT, GB2, X2⟩ := hrel
          by_cases hlt : k < l.length
          · obtain ⟨b1, o1, rfl, hc1⟩ := HV.out (by omega)
            obtain ⟨d1, d2⟩ := hc1 k hlt
            have hpr := HPR.out
            rw [List.drop_eq_getElem_cons hlt] at hpr
            have hki := HK.out l[k] (List.getElem_mem hlt)
            obtain ⟨⟨ak, ax⟩, hax⟩ : ∃ x, l[k] = x := ⟨_, rfl⟩
            rw [hax] at d1 d2 hpr hki
            dsimp only at d1 d2 hki
            have e1 := X2.out.cellSome d1
            have e2 := X2.out.cellSome d2
            have hact := fun W (h : MOw w2.heap.size W mb pb ub c4 p t (.slice aj p.jam.length cj)) => act_any ak ax h (by rw [htu]; exact HUL.out) (by rw [htu]; exact HUJ.out) hki
            have hau := actD_units p t ak ax
            obtain ⟨er, her⟩ : ∃ x, actErr p t ak ax = x := ⟨_, rfl⟩
            unfold ActPost at hact
            rw [her] at hact
            have i1 : (0:Int) ≤ (k:Int) := by omega
            have i2 : (k:Int) < (l.length:Int) := by omega
            clear hc1 d1 d2 hax hki
            have HPN := Lib.hid hpr
            have HACT := Lib.hid hact
            have HER := Lib.hid her
            have HAU := Lib.hid hau
            clear hpr hact her hau
            have wx := X2.out.size
            have wrr := GB2.out.lt
            have wm := HMT.out.bm.lt
            have wp := HMT.out.bp.lt
            have wu : ub < wr.heap.size := by obtain ⟨cs, h, _⟩ := HMT.out.bu; exact h.lt
            have wb : w2.heap.size ≤ wr.heap.size := by have := HMT.out.lm; omega
            have WX := Lib.hid wx
            have WR := Lib.hid wrr
            have WM := Lib.hid wm
            have WP := Lib.hid wp
            have WU := Lib.hid wu
            have WB := Lib.hid wb
            clear wx wrr wm wp wu wb
            by_cases her0 : er = 0
            · subst her0
              have hnx := HPN.out
              rw [progR_ok (by exact HER.out)] at hnx
              dsimp only at hnx
              have hut : (actD p t ak ax).units.length = s.units.length := by rw [HAU.out]; exact htu
              have HNX := Lib.hid hnx
              clear hnx
              go_wp2_with (first
                | (with_reducible refine wpList_allocA (t := 72) rfl rfl Tryz.zeroValue72 ?_
                   rintro zb w4 hx1 hx2 hx3
                   have x2 := X2.out.tr hx2
                   have gb2 := GB2.out.ext hx2
                   have hm2 := HMT.out.ext hx2
                   have lz : wr.heap.size ≤ zb := hx3
                   have f1 := hx2.cellSome e1
                   have f2 := hx2.cellSome e2
                   clear e1 e2 hx2 hx3 X2 GB2 HMT
                   have ZB := Lib.hid hx1
                   have X2 := Lib.hid x2
                   have GB2 := Lib.hid gb2
                   have HMT := Lib.hid hm2
                   have LZ := Lib.hid lz
                   clear hx1 x2 gb2 hm2 lz)
                | (with_reducible refine wpList_storeK (ty := 72) (cells := #[.int .i64 ak, .int .i64 ax]) rfl rfl ZB.out ?_ ?_ ?_ ?_ ?_ ?_
                   · rfl
                   · rfl
                   · kernel_rfl
                   · rfl
                   · simp [Value.oneCell']
                   rintro w5 hb5 ho5
                   have hlt0 := LZ.out
                   have x2 := X2.out.then_only ho5 (fun b (e : b = zb) => by rw [e]; exact Nat.le_trans (WX.out) hlt0)
                   have gb2 := GB2.out.only ho5 (fun (e : gb = zb) => by have := WR.out; omega)
                   have hm2 := HMT.out.only ho5 (fun (e : mb = zb) => by have := WM.out; omega) (fun (e : pb = zb) => by have := WP.out; omega) (fun (e : ub = zb) => by have := WU.out; omega) (fun b hb (e : b = zb) => by have := WB.out; omega)
                   have cz := hb5.cell
                   clear X2 GB2 HMT ZB ho5 f1 f2 hlt0
                   have X2 := Lib.hid x2
                   have GB2 := Lib.hid gb2
                   have HMT := Lib.hid hm2
                   have ZB := Lib.hid hb5
                   clear x2 gb2 hm2 hb5)
                | (have hgd := HACT.out
                   go_at_call 40
                   refine (hgd _ HMT.out).mono ?_
                   rintro e w6 ⟨rfl, hm6, ho6⟩
                   have x2 := X2.out.then_only ho6 (fun b e => by rcases e with e | e <;> (have := hm6.lm; have := hm6.lu; have := LX.out; omega))
                   have gb2 := GB2.out.only ho6 (fun e => by rcases e with e | e <;> (have := hm6.lm; have := hm6.lu; have := LB.out; omega))
                   clear hgd HACT X2 GB2 HMT cz ho6
                   have X2 := Lib.hid x2
                   have GB2 := Lib.hid gb2
                   have HMT := Lib.hid hm6
                   clear x2 gb2 hm6)
                | fail)
              go_roundw
              case rel => exact ⟨k + 1, actD p t ak ax, by omega, by go_num, hut, HNX, HMT, GB2, X2⟩
              case measure => first | (simp [intOf]; done) | (simp [intOf]; omega)
            · have f1' : (er != 0) = true := by simp [her0]
              have hne : actErr p t ak ax ≠ 0 := by rw [HER.out]; exact her0
              have hnx := HPN.out
              rw [progR_no hne] at hnx
              rw [HER.out] at hnx
              have h7 : E = 7 := by rw [HP2.out, ← hnx, if_neg (by dsimp only; intro h; exact her0 h.1)]
              have H7 := Lib.hid h7
              clear h7
              clear hnx
              go_wp2_with (first
                | (with_reducible refine wpList_allocA (t := 72) rfl rfl Tryz.zeroValue72 ?_
                   rintro zb w4 hx1 hx2 hx3
                   have x2 := X2.out.tr hx2
                   have gb2 := GB2.out.ext hx2
                   have hm2 := HMT.out.ext hx2
                   have lz : wr.heap.size ≤ zb := hx3
                   have f1 := hx2.cellSome e1
                   have f2 := hx2.cellSome e2
                   clear e1 e2 hx2 hx3 X2 GB2 HMT
                   have ZB := Lib.hid hx1
                   have X2 := Lib.hid x2
                   have GB2 := Lib.hid gb2
                   have HMT := Lib.hid hm2
                   have LZ := Lib.hid lz
                   clear hx1 x2 gb2 hm2 lz)
                | (with_reducible refine wpList_storeK (ty := 72) (cells := #[.int .i64 ak, .int .i64 ax]) rfl rfl ZB.out ?_ ?_ ?_ ?_ ?_ ?_
                   · rfl
                   · rfl
                   · kernel_rfl
                   · rfl
                   · simp [Value.oneCell']
                   rintro w5 hb5 ho5
                   have hlt0 := LZ.out
                   have x2 := X2.out.then_only ho5 (fun b (e : b = zb) => by rw [e]; exact Nat.le_trans (WX.out) hlt0)
                   have gb2 := GB2.out.only ho5 (fun (e : gb = zb) => by have := WR.out; omega)
                   have hm2 := HMT.out.only ho5 (fun (e : mb = zb) => by have := WM.out; omega) (fun (e : pb = zb) => by have := WP.out; omega) (fun (e : ub = zb) => by have := WU.out; omega) (fun b hb (e : b = zb) => by have := WB.out; omega)
                   have cz := hb5.cell
                   clear X2 GB2 HMT ZB ho5 f1 f2 hlt0
                   have X2 := Lib.hid x2
                   have GB2 := Lib.hid gb2
                   have HMT := Lib.hid hm2
                   have ZB := Lib.hid hb5
                   clear x2 gb2 hm2 hb5)
                | (have hgd := HACT.out
                   go_at_call 40
                   refine (hgd _ HMT.out).mono ?_
                   rintro e w6 ⟨rfl, hm6, ho6⟩
                   have x2 := X2.out.then_only ho6 (fun b e => by rcases e with e | e <;> (have := hm6.lm; have := hm6.lu; have := LX.out; omega))
                   have gb2 := GB2.out.only ho6 (fun e => by rcases e with e | e <;> (have := hm6.lm; have := hm6.lu; have := LB.out; omega))
                   clear hgd HACT X2 GB2 HMT cz ho6
                   have X2 := Lib.hid x2
                   have GB2 := Lib.hid gb2
                   have HMT := Lib.hid hm6
                   clear x2 gb2 hm6)
                | fail)
              go_ret
              exact ⟨by rw [H7.out] <;> rfl, X2.out⟩
          · have i2 : decide ((k:Int) < (l.length:Int)) = false := decide_eq_false (by omega)
            have hnx := HPR.out
            rw [List.drop_eq_nil_of_le (by omega), progR_nil] at hnx
            obtain rfl : k = l.length := by omega
            have d := GB2.out.cell
            have hfl := fun W (k : Ext wr W) => HFU.out W mb pb ub c4 w2.heap.size _ t (X2.out.tr k) (HMT.out.ext k) (by rw [htu]; have := HUL.out; omega)
            obtain ⟨bf, hbf⟩ : ∃ b, fulD g t = b := ⟨_, rfl⟩
            rw [hbf] at hfl
            have h7 : E = if bf then 0 else 7 := by
              rw [HP2.out, ← hnx, hbf]
              cases bf <;> simp
            clear hnx hbf
            have H7 := Lib.hid h7
            have HFL := Lib.hid hfl
            clear h7 hfl
            cases bf
            all_goals
              go_wp2_with (
                have hgd := HFL.out
                go_at_call 35
                refine (hgd _ (Below.refl _ _)).mono ?_
                rintro e w9 ⟨rfl, hx⟩
                have x2 := X2.out.tr hx
                clear hgd X2
                have X2 := Lib.hid x2
                clear x2)
              go_ret
              exact ⟨by rw [H7.out] <;> rfl, X2.out⟩
  · have hpe : E = e1 := by rw [← hE]; unfold vfErr goErr; rw [he1, if_pos h1, if_pos h1]
    have hs := fun w1 (k : Ext w w1) => (hst w1 k).mono fun e w' (h : StartPost w1 p s _ e w') => (h.resolve_right fun h => h1 (he1 ▸ h.1)).2
    rw [he1] at hs
    have f1 : (e1 != 0) = true := by simp [h1]
    have f2 : (e1 == 0) = false := by simp [h1]
    have HPE := Lib.hid hpe
    have H1 := Lib.hid h1
    have HS := Lib.hid hs
    clear hpe h1 hs
    clear he1 hst hE
    go_enter Tryz.func13, Tryz.ntmps13
    go_upto_region 1 with (first
      | (with_reducible refine wpList_boxA (t := 34) (cs := #[.slice aj p.jam.length cj, .int .i64 p.warm, .int .i64 p.tail, .int .i64 p.dirt]) rfl rfl rfl ?_
         rintro xb w1 hx1 hx2 hx3
         have PB := Lib.hid hx1
         have X1 := Lib.hid hx2
         clear hx1 hx2
         clear hx3)
      | (with_reducible refine wpList_boxA (t := 38) (cs := #[.int .i64 s.drive, .bool s.folder, .slice a s.units.length c, .int .i64 s.fresh]) rfl rfl rfl ?_
         rintro sb w2 hy1 hy2 hy3
         have pb2 := PB.out.ext hy2
         have x2 := X1.out.tr hy2
         clear PB X1
         have SB := Lib.hid hy1
         have PB := Lib.hid pb2
         have X1 := Lib.hid x2
         clear hy1 pb2 x2
         clear hy3 hy2)
      | (with_reducible refine wpList_boxA (t := 40) (cs := #[.int .i64 g.drive, .slice ag g.pressed.length cg]) rfl rfl rfl ?_
         rintro gb w2 hy1 hy2 hy3
         have c2 := (PB.out.ext hy2).cell
         have c3 := (SB.out.ext hy2).cell
         have x2 := X1.out.tr hy2
         clear PB X1 SB
         have GB := Lib.hid hy1
         have X1 := Lib.hid x2
         clear hy1 x2
         clear hy3 hy2))
    go_wp2_with (
        have hgd := HS.out
        go_at_call 31
        refine (hgd _ X1.out).mono ?_
        rintro e w3 ⟨rfl, hx3⟩
        have x2 := X1.out.tr hx3
        clear c2 c3 X1 hgd hx3 HS
        have X1 := Lib.hid x2
        clear x2)
    go_ret
    exact ⟨by rw [HPE.out] <;> rfl, X1.out⟩
end Go.Proofs.YtojobdffnnibaaaGreat
