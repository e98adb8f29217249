import Derived.Test.YtojobdffnnibaaaPProg
import Derived.Test.YtojobdffnnibaaaPFul
import Derived.Test.YtojobdffnnibaaaPressPl
import Derived.Test.YtojobdffnnibaaaPlainGd
import Derived.Test.YtojobdffnnibaaaPFind
import Derived.Test.YtojobdffnnibaaaGuards0
/- press.Verify. -/
namespace Go.Proofs.Ytojobdffnnibaaa
open Go.RowKit
set_option linter.unusedVariables false
set_option linter.unusedSimpArgs false

/-- What Verify answers. -/
def vfErr (p : PressD) (s : StD) (g : GoalD) (l : List (Int × Int)) : Int :=
  if goErr p s g ≠ 0 then goErr p s g else if 200 < l.length then 2 else if (progR p s 0 l).2.2 = 0 ∧ fulD g (progR p s 0 l).1 = true then 0 else 7

set_option maxRecDepth 100000 in
set_option maxHeartbeats 4000000 in
theorem verify_any (p : PressD) (s : StD) (g : GoalD) (l : List (Int × Int)) (vj vu vg vl : Value) (w : World) (hj : Truths w vj p.jam) (hu : UnIn w vu s.units) (hg : Truths w vg g.pressed) (hl : s.units.length ≤ 1000000) (hv : AcIn w vl l) (hk : ∀ a ∈ l, I64 a.1) :
    Calls Try.prog 26 #[pV vj p, sV vu s, gV vg g, vl] w fun e w' => e = .returned (.int .i64 (vfErr p s g l)) ∧ Ext w w' := by
  have hst := fun w1 (k : Ext w w1) => start_any p s vj vu w1 (Sl.ext hj k) (hu.ext k) hl
  have haim := fun W mb pb ub c B vj0 (k : Ext w W) (h : MOw B W mb pb ub c p s vj0) => aimed_any W h hl (Sl.ext hg k)
  have hful := fun W mb pb ub c B vj0 t (k : Ext w W) (h : MOw B W mb pb ub c p t vj0) (hl : t.units.length ≤ 1000000) => fulfils_any W h hl (Sl.ext hg k)
  obtain ⟨a, c, rfl, Hu⟩ := hu.form
  obtain ⟨_, aj, cj, hvj, _⟩ := id hj
  rw [List.length_map] at hvj
  subst hvj
  obtain ⟨_, ag, cg, hvg, _⟩ := id hg
  rw [List.length_map] at hvg
  subst hvg
  have hlm := hv.1
  obtain ⟨al, cl, rfl, HV⟩ := hv.form
  obtain ⟨E, hE⟩ : ∃ E, vfErr p s g l = E := ⟨_, rfl⟩
  rw [hE]
  have HK := Lib.hid hk
  have HAI := Lib.hid haim
  have HFU := Lib.hid hful
  clear hk haim hful
  clear hu hl hv Hu hg
  unfold pV sV gV at *
  obtain ⟨e1, he1⟩ : ∃ e, stErr p s = e := ⟨_, rfl⟩
  by_cases h1 : e1 = 0
  · subst h1
    have hs := fun w1 (k : Ext w w1) => (hst w1 k).mono fun e w' (h : StartPost w1 p s _ e w') => (h.resolve_left fun h => h.1 he1).2
    obtain ⟨hpe, hsh, hsf⟩ := stErr_ok he1
    have huj := shaped_len hsh
    have hul : s.units.length ≤ 3 := by rw [huj]; exact (pErr_len hpe).2
    obtain ⟨ba, hba⟩ : ∃ b, aimedD s g = b := ⟨_, rfl⟩
    rw [hba] at HAI
    have hgo : goErr p s g = if ba then 0 else 1 := by unfold goErr; rw [if_neg (by rw [he1]; simp), hba]
    have hve : E = if goErr p s g ≠ 0 then goErr p s g else if 200 < l.length then 2 else if (progR p s 0 l).2.2 = 0 ∧ fulD g (progR p s 0 l).1 = true then 0 else 7 := by rw [← hE]; rfl
    rw [hgo] at hve
    have HS := Lib.hid hs
    have HUL := Lib.hid hul
    have HUJ := Lib.hid huj
    have HVE := Lib.hid hve
    clear hs hul huj hve
    clear hst he1 hpe hsh hsf hba hE hgo
    go_enter Try.func26, Try.ntmps26
    go_upto_region 1 with (first
      | (with_reducible refine wpList_boxA (t := 32) (cs := #[.slice aj p.jam.length cj, .int .i64 p.warm, .int .i64 p.tail, .int .i64 p.dirt]) rfl rfl rfl ?_
         rintro xb w1 hx1 hx2 hx3
         have PB := Lib.hid hx1
         have X1 := Lib.hid hx2
         clear hx1 hx2
         clear hx3)
      | (with_reducible refine wpList_boxA (t := 36) (cs := #[.int .i64 s.drive, .bool s.folder, .slice a s.units.length c, .int .i64 s.fresh]) rfl rfl rfl ?_
         rintro sb w2 hy1 hy2 hy3
         have pb2 := PB.out.ext hy2
         have x2 := X1.out.tr hy2
         clear PB X1
         have SB := Lib.hid hy1
         have PB := Lib.hid pb2
         have X1 := Lib.hid x2
         clear hy1 pb2 x2
         clear hy3 hy2)
      | (with_reducible refine wpList_boxA (t := 69) (cs := #[.int .i64 g.drive, .slice ag g.pressed.length cg]) rfl rfl rfl ?_
         rintro gb w2 hy1 hy2 hy3
         have c2 := (PB.out.ext hy2).cell
         have c3 := (SB.out.ext hy2).cell
         have x2 := X1.out.tr hy2
         clear PB X1 SB
         have GB := Lib.hid hy1
         have X1 := Lib.hid x2
         clear hy1 x2
         clear hy3 hy2))
    go_upto_region 3 with (
        have hgd := HS.out
        go_at_call 43
        refine (hgd _ X1.out).mono ?_
        rintro e wB ⟨mb, pb, ub, c4, rfl, hmo, hx3⟩
        have gb2 := GB.out.ext hx3
        have lb := GB.out.lt
        have lx := X1.out.size
        have x2 := X1.out.tr hx3
        have hmo2 := hmo
        clear c2 c3 GB X1 hgd hx3 HS hmo
        have kgb := gb2.cell
        have GB := Lib.hid gb2
        have X1 := Lib.hid x2
        have HM := Lib.hid hmo2
        have LX := Lib.hid lx
        have LB := Lib.hid lb
        clear gb2 x2 hmo2 lx lb)
    cases ba
    · have hfe : E = 1 := HVE.out
      have HFE := Lib.hid hfe
      clear hfe
      go_wp2_with (
         have hgd := HAI.out
         go_at_call 50
         refine (hgd _ _ _ _ _ _ _ X1.out HM.out).mono ?_
         rintro e w4 ⟨rfl, hx4⟩
         have x2 := X1.out.tr hx4
         clear hgd X1 HAI kgb
         have X1 := Lib.hid x2
         clear x2)
      go_ret
      exact ⟨by rw [HFE.out] <;> rfl, X1.out⟩
    · have hve2 : E = if 200 < l.length then 2 else if (progR p s 0 l).2.2 = 0 ∧ fulD g (progR p s 0 l).1 = true then 0 else 7 := HVE.out
      clear HVE
      have HVE := Lib.hid hve2
      clear hve2
      by_cases h2 : 200 < l.length
      · have hp2 : E = 2 := by rw [HVE.out, if_pos h2]
        have i1 : (200:Int) < (l.length:Int) := by omega
        have HP2 := Lib.hid hp2
        clear hp2
        go_wp2_with (
           have hgd := HAI.out
           go_at_call 50
           refine (hgd _ _ _ _ _ _ _ X1.out HM.out).mono ?_
           rintro e w4 ⟨rfl, hx4⟩
           have x2 := X1.out.tr hx4
           clear hgd X1 HAI kgb
           have X1 := Lib.hid x2
           clear x2)
        go_ret
        exact ⟨by rw [HP2.out] <;> rfl, X1.out⟩
      · have hp2 : E = if (progR p s 0 l).2.2 = 0 ∧ fulD g (progR p s 0 l).1 = true then 0 else 7 := by rw [HVE.out, if_neg h2]
        have i1 : decide ((200:Int) < (l.length:Int)) = false := decide_eq_false (by omega)
        have i1' : decide (200 < l.length) = false := decide_eq_false (by omega)
        have hll : l.length ≤ 200 := by omega
        have HP2 := Lib.hid hp2
        have HLL := Lib.hid hll
        clear hp2 hll
        clear h2 HVE
        go_upto_region 9 with (
           have hgd := HAI.out
           go_at_call 50
           refine (hgd _ _ _ _ _ _ _ X1.out HM.out).mono ?_
           rintro e w4 ⟨rfl, hx4⟩
           have gb2 := GB.out.ext hx4
           have hm2 := HM.out.ext hx4
           have x2 := X1.out.tr hx4
           clear hgd X1 HAI kgb GB HM
           have X1 := Lib.hid x2
           have GB := Lib.hid gb2
           have HM := Lib.hid hm2
           clear x2 gb2 hm2)
        go_loopw [34] (fun t34 wr => ∃ (k : Nat) (t : StD), k ≤ l.length ∧ t34 = .int .i64 k ∧ t.units.length = s.units.length ∧ Hid (progR p t k (l.drop k) = progR p s 0 l) ∧ Hid (MOw w2.heap.size wr mb pb ub c4 p t (.slice aj p.jam.length cj)) ∧ Hid (Blk wr gb #[.int .i64 g.drive, .slice ag g.pressed.length cg] 69) ∧ Hid (Ext w wr)) (fun t34 _ => l.length - (intOf t34).toNat)
        case atStart => exact ⟨0, s, Nat.zero_le _, rfl, rfl, rfl, HM, GB, X1⟩
        case round =>
          clear i1 i1'
          obtain ⟨k, t, hk, rfl, htu, HPR, HMT, GB2, X2⟩ := hrel
          by_cases hlt : k < l.length
          · obtain ⟨b1, o1, rfl, hc1⟩ := HV.out (by omega)
            obtain ⟨d1, d2⟩ := hc1 k hlt
            have hpr := HPR.out
            rw [List.drop_eq_getElem_cons hlt] at hpr
            have hki := HK.out l[k] (List.getElem_mem hlt)
            obtain ⟨⟨ak, ax⟩, hax⟩ : ∃ x, l[k] = x := ⟨_, rfl⟩
            rw [hax] at d1 d2 hpr hki
            dsimp only at d1 d2 hki
            have e1 := X2.out.cellSome d1
            have e2 := X2.out.cellSome d2
            have hact := fun W (h : MOw w2.heap.size W mb pb ub c4 p t (.slice aj p.jam.length cj)) => act_any ak ax h (by rw [htu]; exact HUL.out) (by rw [htu]; exact HUJ.out) hki
            have hau := actD_units p t ak ax
            obtain ⟨er, her⟩ : ∃ x, actErr p t ak ax = x := ⟨_, rfl⟩
            unfold ActPost at hact
            rw [her] at hact
            have i1 : (0:Int) ≤ (k:Int) := by omega
            have i2 : (k:Int) < (l.length:Int) := by omega
            clear hc1 d1 d2 hax hki
            have HPN := Lib.hid hpr
            have HACT := Lib.hid hact
            have HER := Lib.hid her
            have HAU := Lib.hid hau
            clear hpr hact her hau
            have wx := X2.out.size
            have wrr := GB2.out.lt
            have wm := HMT.out.bm.lt
            have wp := HMT.out.bp.lt
            have wu : ub < wr.heap.size := by obtain ⟨cs, h, _⟩ := HMT.out.bu; exact h.lt
            have wb : w2.heap.size ≤ wr.heap.size := by have := HMT.out.lm; omega
            have WX := Lib.hid wx
            have WR := Lib.hid wrr
            have WM := Lib.hid wm
            have WP := Lib.hid wp
            have WU := Lib.hid wu
            have WB := Lib.hid wb
            clear wx wrr wm wp wu wb
            by_cases her0 : er = 0
            · subst her0
              have hnx := HPN.out
              rw [progR_ok (by exact HER.out)] at hnx
              dsimp only at hnx
              have hut : (actD p t ak ax).units.length = s.units.length := by rw [HAU.out]; exact htu
              have HNX := Lib.hid hnx
              clear hnx
              go_wp2_with (first
                | (with_reducible refine wpList_allocA (t := 63) rfl rfl Try.zeroValue63 ?_
                   rintro zb w4 hx1 hx2 hx3
                   have x2 := X2.out.tr hx2
                   have gb2 := GB2.out.ext hx2
                   have hm2 := HMT.out.ext hx2
                   have lz : wr.heap.size ≤ zb := hx3
                   have f1 := hx2.cellSome e1
                   have f2 := hx2.cellSome e2
                   clear e1 e2 hx2 hx3 X2 GB2 HMT
                   have ZB := Lib.hid hx1
                   have X2 := Lib.hid x2
                   have GB2 := Lib.hid gb2
                   have HMT := Lib.hid hm2
                   have LZ := Lib.hid lz
                   clear hx1 x2 gb2 hm2 lz)
                | (with_reducible refine wpList_storeK (ty := 63) (cells := #[.int .i64 ak, .int .i64 ax]) rfl rfl ZB.out ?_ ?_ ?_ ?_ ?_ ?_
                   · rfl
                   · rfl
                   · kernel_rfl
                   · rfl
                   · simp [Value.oneCell']
                   rintro w5 hb5 ho5
                   have hlt0 := LZ.out
                   have x2 := X2.out.then_only ho5 (fun b (e : b = zb) => by rw [e]; exact Nat.le_trans (WX.out) hlt0)
                   have gb2 := GB2.out.only ho5 (fun (e : gb = zb) => by have := WR.out; omega)
                   have hm2 := HMT.out.only ho5 (fun (e : mb = zb) => by have := WM.out; omega) (fun (e : pb = zb) => by have := WP.out; omega) (fun (e : ub = zb) => by have := WU.out; omega) (fun b hb (e : b = zb) => by have := WB.out; omega)
                   have cz := hb5.cell
                   clear X2 GB2 HMT ZB ho5 f1 f2 hlt0
                   have X2 := Lib.hid x2
                   have GB2 := Lib.hid gb2
                   have HMT := Lib.hid hm2
                   have ZB := Lib.hid hb5
                   clear x2 gb2 hm2 hb5)
                | (have hgd := HACT.out
                   go_at_call 47
                   refine (hgd _ HMT.out).mono ?_
                   rintro e w6 ⟨rfl, hm6, ho6⟩
                   have x2 := X2.out.then_only ho6 (fun b e => by rcases e with e | e <;> (have := hm6.lm; have := hm6.lu; have := LX.out; omega))
                   have gb2 := GB2.out.only ho6 (fun e => by rcases e with e | e <;> (have := hm6.lm; have := hm6.lu; have := LB.out; omega))
                   clear hgd HACT X2 GB2 HMT cz ho6
                   have X2 := Lib.hid x2
                   have GB2 := Lib.hid gb2
                   have HMT := Lib.hid hm6
                   clear x2 gb2 hm6)
                | fail)
              go_roundw
              case rel => exact ⟨k + 1, actD p t ak ax, by omega, by go_num, hut, HNX, HMT, GB2, X2⟩
              case measure => first | (simp [intOf]; done) | (simp [intOf]; omega)
            · have f1' : (er != 0) = true := by simp [her0]
              have hne : actErr p t ak ax ≠ 0 := by rw [HER.out]; exact her0
              have hnx := HPN.out
              rw [progR_no hne] at hnx
              rw [HER.out] at hnx
              have h7 : E = 7 := by rw [HP2.out, ← hnx, if_neg (by dsimp only; intro h; exact her0 h.1)]
              have H7 := Lib.hid h7
              clear h7
              clear hnx
              go_wp2_with (first
                | (with_reducible refine wpList_allocA (t := 63) rfl rfl Try.zeroValue63 ?_
                   rintro zb w4 hx1 hx2 hx3
                   have x2 := X2.out.tr hx2
                   have gb2 := GB2.out.ext hx2
                   have hm2 := HMT.out.ext hx2
                   have lz : wr.heap.size ≤ zb := hx3
                   have f1 := hx2.cellSome e1
                   have f2 := hx2.cellSome e2
                   clear e1 e2 hx2 hx3 X2 GB2 HMT
                   have ZB := Lib.hid hx1
                   have X2 := Lib.hid x2
                   have GB2 := Lib.hid gb2
                   have HMT := Lib.hid hm2
                   have LZ := Lib.hid lz
                   clear hx1 x2 gb2 hm2 lz)
                | (with_reducible refine wpList_storeK (ty := 63) (cells := #[.int .i64 ak, .int .i64 ax]) rfl rfl ZB.out ?_ ?_ ?_ ?_ ?_ ?_
                   · rfl
                   · rfl
                   · kernel_rfl
                   · rfl
                   · simp [Value.oneCell']
                   rintro w5 hb5 ho5
                   have hlt0 := LZ.out
                   have x2 := X2.out.then_only ho5 (fun b (e : b = zb) => by rw [e]; exact Nat.le_trans (WX.out) hlt0)
                   have gb2 := GB2.out.only ho5 (fun (e : gb = zb) => by have := WR.out; omega)
                   have hm2 := HMT.out.only ho5 (fun (e : mb = zb) => by have := WM.out; omega) (fun (e : pb = zb) => by have := WP.out; omega) (fun (e : ub = zb) => by have := WU.out; omega) (fun b hb (e : b = zb) => by have := WB.out; omega)
                   have cz := hb5.cell
                   clear X2 GB2 HMT ZB ho5 f1 f2 hlt0
                   have X2 := Lib.hid x2
                   have GB2 := Lib.hid gb2
                   have HMT := Lib.hid hm2
                   have ZB := Lib.hid hb5
                   clear x2 gb2 hm2 hb5)
                | (have hgd := HACT.out
                   go_at_call 47
                   refine (hgd _ HMT.out).mono ?_
                   rintro e w6 ⟨rfl, hm6, ho6⟩
                   have x2 := X2.out.then_only ho6 (fun b e => by rcases e with e | e <;> (have := hm6.lm; have := hm6.lu; have := LX.out; omega))
                   have gb2 := GB2.out.only ho6 (fun e => by rcases e with e | e <;> (have := hm6.lm; have := hm6.lu; have := LB.out; omega))
                   clear hgd HACT X2 GB2 HMT cz ho6
                   have X2 := Lib.hid x2
                   have GB2 := Lib.hid gb2
                   have HMT := Lib.hid hm6
                   clear x2 gb2 hm6)
                | fail)
              go_ret
              exact ⟨by rw [H7.out] <;> rfl, X2.out⟩
          · have i2 : decide ((k:Int) < (l.length:Int)) = false := decide_eq_false (by omega)
            have hnx := HPR.out
            rw [List.drop_eq_nil_of_le (by omega), progR_nil] at hnx
            obtain rfl : k = l.length := by omega
            have d := GB2.out.cell
            have hfl := fun W (k : Ext wr W) => HFU.out W mb pb ub c4 w2.heap.size _ t (X2.out.tr k) (HMT.out.ext k) (by rw [htu]; have := HUL.out; omega)
            obtain ⟨bf, hbf⟩ : ∃ b, fulD g t = b := ⟨_, rfl⟩
            rw [hbf] at hfl
            have h7 : E = if bf then 0 else 7 := by
              rw [HP2.out, ← hnx, hbf]
              cases bf <;> simp
            clear hnx hbf
            have H7 := Lib.hid h7
            have HFL := Lib.hid hfl
            clear h7 hfl
            cases bf
            all_goals
              go_wp2_with (
                have hgd := HFL.out
                go_at_call 53
                refine (hgd _ (Below.refl _ _)).mono ?_
                rintro e w9 ⟨rfl, hx⟩
                have x2 := X2.out.tr hx
                clear hgd X2
                have X2 := Lib.hid x2
                clear x2)
              go_ret
              exact ⟨by rw [H7.out] <;> rfl, X2.out⟩
  · have hpe : E = e1 := by rw [← hE]; unfold vfErr goErr; rw [he1, if_pos h1, if_pos h1]
    have hs := fun w1 (k : Ext w w1) => (hst w1 k).mono fun e w' (h : StartPost w1 p s _ e w') => (h.resolve_right fun h => h1 (he1 ▸ h.1)).2
    rw [he1] at hs
    have f1 : (e1 != 0) = true := by simp [h1]
    have f2 : (e1 == 0) = false := by simp [h1]
    have HPE := Lib.hid hpe
    have H1 := Lib.hid h1
    have HS := Lib.hid hs
    clear hpe h1 hs
    clear he1 hst hE
    go_enter Try.func26, Try.ntmps26
    go_upto_region 1 with (first
      | (with_reducible refine wpList_boxA (t := 32) (cs := #[.slice aj p.jam.length cj, .int .i64 p.warm, .int .i64 p.tail, .int .i64 p.dirt]) rfl rfl rfl ?_
         rintro xb w1 hx1 hx2 hx3
         have PB := Lib.hid hx1
         have X1 := Lib.hid hx2
         clear hx1 hx2
         clear hx3)
      | (with_reducible refine wpList_boxA (t := 36) (cs := #[.int .i64 s.drive, .bool s.folder, .slice a s.units.length c, .int .i64 s.fresh]) rfl rfl rfl ?_
         rintro sb w2 hy1 hy2 hy3
         have pb2 := PB.out.ext hy2
         have x2 := X1.out.tr hy2
         clear PB X1
         have SB := Lib.hid hy1
         have PB := Lib.hid pb2
         have X1 := Lib.hid x2
         clear hy1 pb2 x2
         clear hy3 hy2)
      | (with_reducible refine wpList_boxA (t := 69) (cs := #[.int .i64 g.drive, .slice ag g.pressed.length cg]) rfl rfl rfl ?_
         rintro gb w2 hy1 hy2 hy3
         have c2 := (PB.out.ext hy2).cell
         have c3 := (SB.out.ext hy2).cell
         have x2 := X1.out.tr hy2
         clear PB X1 SB
         have GB := Lib.hid hy1
         have X1 := Lib.hid x2
         clear hy1 x2
         clear hy3 hy2))
    go_wp2_with (
        have hgd := HS.out
        go_at_call 43
        refine (hgd _ X1.out).mono ?_
        rintro e w3 ⟨rfl, hx3⟩
        have x2 := X1.out.tr hx3
        clear c2 c3 X1 hgd hx3 HS
        have X1 := Lib.hid x2
        clear x2)
    go_ret
    exact ⟨by rw [HPE.out] <;> rfl, X1.out⟩
end Go.Proofs.Ytojobdffnnibaaa

/- The search goes by layers: what it finds is right, as short as any program, and what it does not find no program reaches. In plain words. -/
namespace Go.Proofs.Ytojobdffnnibaaa
set_option linter.unusedVariables false

def flagsU (u : UnitD) : Bool × Bool × Bool × Bool := (u.op, u.th, u.cl, u.pr)
/-- Two states of one situation. -/
structure SS (s t : StD) : Prop where
  dr : s.drive = t.drive
  fo : s.folder = t.folder
  un : s.units.map flagsU = t.units.map flagsU
theorem SS.refl (s : StD) : SS s s := ⟨rfl, rfl, rfl⟩
theorem SS.symm {s t : StD} (h : SS s t) : SS t s := ⟨h.dr.symm, h.fo.symm, h.un.symm⟩
theorem SS.trans {s t r : StD} (h : SS s t) (k : SS t r) : SS s r := ⟨h.dr.trans k.dr, h.fo.trans k.fo, h.un.trans k.un⟩
theorem SS.len {s t : StD} (h : SS s t) : s.units.length = t.units.length := by
  have := congrArg List.length h.un
  simpa using this
theorem unitsB_eq {us vs : List UnitD} (h : us.map flagsU = vs.map flagsU) : unitsB us = unitsB vs := by
  have e : ∀ l : List UnitD, unitsB l = (l.map flagsU).flatMap fun f => [f.1, f.2.1, f.2.2.1, f.2.2.2] := fun l => by
    unfold unitsB; rw [List.flatMap_map]; rfl
  rw [e, e, h]
theorem SS.sit {s t : StD} (h : SS s t) : sitD s = sitD t := by
  unfold sitD
  rw [h.dr, h.fo, unitsB_eq h.un]
theorem unitsB_inj : ∀ (us vs : List UnitD) (a b : List Bool), us.length = vs.length → unitsB us ++ a = unitsB vs ++ b → us.map flagsU = vs.map flagsU
  | [], [], _, _, _, _ => rfl
  | [], v :: vs, _, _, h, _ => by simp at h
  | u :: us, [], _, _, h, _ => by simp at h
  | u :: us, v :: vs, a, b, h, e => by
    unfold unitsB at e
    simp only [List.flatMap_cons, List.cons_append, List.nil_append, List.cons.injEq] at e
    obtain ⟨h1, h2, h3, h4, e⟩ := e
    rw [List.map_cons, List.map_cons]
    have := unitsB_inj us vs a b (by simpa using h) e
    rw [this]
    unfold flagsU
    rw [h1, h2, h3, h4]
theorem sit_ss {s t : StD} (h : sitD s = sitD t) (hs : 0 ≤ s.drive ∧ s.drive ≤ 2) (ht : 0 ≤ t.drive ∧ t.drive ≤ 2) (hl : s.units.length = t.units.length) (h3 : s.units.length ≤ 3) : SS s t := by
  have e : ∀ r : StD, r.units.length ≤ 3 → sitD r = [r.drive == 1, r.drive == 2, r.folder] ++ (unitsB r.units ++ List.replicate (12 - 4 * r.units.length) false) := fun r hr => by
    have hb : ∀ us : List UnitD, (unitsB us).length = 4 * us.length := fun us => by
      induction us with
      | nil => rfl
      | cons u us ih =>
        have : unitsB (u :: us) = [u.op, u.th, u.cl, u.pr] ++ unitsB us := rfl
        rw [this, List.length_append, ih]; simp; omega
    unfold sitD
    rw [List.append_assoc, List.take_append, List.take_append]
    have h1 : (15 - [r.drive == 1, r.drive == 2, r.folder].length) = 12 := rfl
    rw [h1, List.take_of_length_le (by simp), List.take_of_length_le (by rw [hb]; omega), List.take_replicate, hb, Nat.min_eq_left (by omega)]
  rw [e s h3, e t (by omega)] at h
  simp only [List.cons_append, List.nil_append, List.cons.injEq] at h
  obtain ⟨h1, h2, h4, h5⟩ := h
  refine ⟨?_, h4, unitsB_inj _ _ _ _ hl h5⟩
  have a1 : s.drive = 1 ↔ t.drive = 1 := by rw [← beq_iff_eq, ← beq_iff_eq (a := t.drive), h1]
  have a2 : s.drive = 2 ↔ t.drive = 2 := by rw [← beq_iff_eq, ← beq_iff_eq (a := t.drive), h2]
  omega

theorem map_any {us vs : List UnitD} (h : us.map flagsU = vs.map flagsU) (f : UnitD → Bool) (g : Bool × Bool × Bool × Bool → Bool) (hf : ∀ u, f u = g (flagsU u)) : us.any f = vs.any f := by
  have e : ∀ l : List UnitD, l.any f = (l.map flagsU).any g := fun l => by
    rw [List.any_map]; congr 1; funext u; exact hf u
  rw [e, e, h]
theorem map_filter_len {us vs : List UnitD} (h : us.map flagsU = vs.map flagsU) (f : UnitD → Bool) (g : Bool × Bool × Bool × Bool → Bool) (hf : ∀ u, f u = g (flagsU u)) : (us.filter f).length = (vs.filter f).length := by
  have e : ∀ l : List UnitD, (l.filter f).length = ((l.map flagsU).filter g).length := fun l => by
    rw [List.filter_map, List.length_map]
    congr 2
    funext u; exact hf u
  rw [e, e, h]
theorem SS.getD {s t : StD} (h : SS s t) (i : Nat) : flagsU (s.units.getD i default) = flagsU (t.units.getD i default) := by
  have e : ∀ l : List UnitD, flagsU (l.getD i default) = (l.map flagsU).getD i (flagsU default) := fun l => by
    simp only [List.getD_eq_getElem?_getD, List.getElem?_map]
    cases l[i]? <;> rfl
  rw [e, e, h.un]
theorem SS.opened {s t : StD} (h : SS s t) : opened s = opened t := by
  unfold Go.Proofs.Ytojobdffnnibaaa.opened
  rw [h.fo, map_any h.un (·.op) (·.1) (fun _ => rfl)]
theorem SS.anyPr {s t : StD} (h : SS s t) : anyPr s = anyPr t := map_any h.un (·.pr) (·.2.2.2) (fun _ => rfl)
theorem SS.nPr {s t : StD} (h : SS s t) : nPr s = nPr t := map_filter_len h.un (·.pr) (·.2.2.2) (fun _ => rfl)
theorem SS.allow {p : PressD} {s t : StD} (h : SS s t) (k : Int) (i : Nat) : allowD p s k i = allowD p t k i := by
  have hg := h.getD i
  unfold allowD
  rw [h.dr, h.fo, h.opened, h.anyPr, h.nPr]
  obtain ⟨u, hu⟩ : ∃ u, s.units.getD i default = u := ⟨_, rfl⟩
  obtain ⟨v, hv⟩ : ∃ v, t.units.getD i default = v := ⟨_, rfl⟩
  rw [hu, hv] at hg ⊢
  unfold flagsU at hg
  simp only [Prod.mk.injEq] at hg
  obtain ⟨h1, h2, h3, h4⟩ := hg
  dsimp only
  rw [h1, h2, h3, h4]
theorem SS.err {p : PressD} {s t : StD} (h : SS s t) (k x : Int) : actErr p s k x = actErr p t k x := by
  unfold actErr
  rw [h.len, h.allow]
theorem flags_unit (k : Int) {u v : UnitD} (h : flagsU u = flagsU v) : flagsU (unitD k u) = flagsU (unitD k v) := by
  unfold flagsU at h
  simp only [Prod.mk.injEq] at h
  obtain ⟨h1, h2, h3, h4⟩ := h
  unfold unitD flagsU
  repeat' split
  all_goals simp [h1, h2, h3, h4]
theorem SS.do_ {s t : StD} (h : SS s t) (k : Int) (i : Nat) : SS (doD s k i) (doD t k i) := by
  unfold doD
  repeat' split
  · exact ⟨rfl, h.fo, h.un⟩
  · exact ⟨rfl, h.fo, h.un⟩
  · exact ⟨rfl, h.fo, h.un⟩
  · exact ⟨h.dr, rfl, h.un⟩
  · exact ⟨h.dr, rfl, h.un⟩
  · refine ⟨h.dr, h.fo, ?_⟩
    dsimp only
    rw [List.map_set, List.map_set, h.un, flags_unit k (h.getD i)]
theorem SS.act {p : PressD} {s t : StD} (h : SS s t) (k x : Int) : SS (actD p s k x) (actD p t k x) := by
  unfold actD
  rw [h.err]
  split
  · exact h.do_ k _
  · exact h
theorem SS.ful {s t : StD} (h : SS s t) (g : GoalD) : fulD g s = fulD g t := by
  unfold fulD
  have e : ∀ l : List UnitD, l.map (·.pr) = (l.map flagsU).map (·.2.2.2) := fun l => by rw [List.map_map]; rfl
  rw [h.dr, e, e, h.un]

/-- A state with which the search can go on. -/
structure Fit (n : Nat) (s : StD) : Prop where
  dr : 0 ≤ s.drive ∧ s.drive ≤ 2
  len : s.units.length = n
theorem Fit.act {p : PressD} {n : Nat} {s : StD} (h : Fit n s) (k x : Int) : Fit n (actD p s k x) := by
  refine ⟨?_, by rw [actD_units]; exact h.len⟩
  have := h.dr
  unfold actD
  split
  · unfold doD
    repeat' split
    all_goals (dsimp only; omega)
  · exact this

/-- What the search has at a list, all ahead of number i gone through. -/
structure Bfs (p : PressD) (n : Nat) (s0 : StD) (i : Nat) (l : List StepD) (dep : Nat → Nat) : Prop where
  pos : 0 < l.length
  first : ∀ h : 0 < l.length, l[0].at_ = s0 ∧ l[0].from_ = -1
  fit : ∀ j (h : j < l.length), Fit n l[j].at_
  dep0 : dep 0 = 0
  from_ : ∀ j (h : j < l.length), 0 < j → ∃ f : Nat, l[j].from_ = f ∧ ∃ hf : f < j, f < l.length ∧ dep j = dep f + 1 ∧ actErr p (l[f]'(by omega)).at_ l[j].kind l[j].unit = 0 ∧ l[j].at_ = actD p (l[f]'(by omega)).at_ l[j].kind l[j].unit
  mono : ∀ j k, j ≤ k → k < l.length → dep j ≤ dep k
  top : ∀ j, j < l.length → i < l.length → dep j ≤ dep i + 1
  closed : ∀ j (h : j < l.length), j < i → ∀ k (u : Nat), 1 ≤ k → k ≤ 12 → u < n → actErr p l[j].at_ k u = 0 → ∃ j' , ∃ h' : j' < l.length, sitD l[j'].at_ = sitD (actD p l[j].at_ k u) ∧ dep j' ≤ dep j + 1

/-- While number i is gone through: some actions are done. -/
structure BfsA (p : PressD) (n : Nat) (s0 : StD) (i : Nat) (l : List StepD) (dep : Nat → Nat) (done : List (Int × Nat)) : Prop extends Bfs p n s0 i l dep where
  lt : i < l.length
  now : ∀ a ∈ done, actErr p l[i].at_ a.1 a.2 = 0 → ∃ j' , ∃ h' : j' < l.length, sitD l[j'].at_ = sitD (actD p l[i].at_ a.1 a.2) ∧ dep j' ≤ dep i + 1

theorem BfsA.add {p : PressD} {n : Nat} {s0 : StD} {i : Nat} {l : List StepD} {dep : Nat → Nat} {done : List (Int × Nat)} (b : BfsA p n s0 i l dep done) (a : Int × Nat) {s : StD} (hs : (l[i]'b.lt).at_ = s) :
    ∃ dep', ∃ b' : BfsA p n s0 i (addStep p i s l a) dep' (done ++ [a]), ((addStep p i s l a)[i]'b'.lt).at_ = s := by
  have hlt := b.lt
  unfold addStep
  by_cases he : actErr p s a.1 a.2 = 0
  · rw [if_pos he]
    dsimp only
    by_cases hk : (l.any fun t => sitD t.at_ == sitD (actD p s a.1 a.2)) = true
    · rw [if_pos hk]
      refine ⟨dep, ⟨b.toBfs, hlt, fun c hc hce => ?_⟩, hs⟩
      rcases List.mem_append.1 hc with hc | hc
      · exact b.now c hc hce
      · rw [List.mem_singleton.1 hc, hs]
        obtain ⟨t, ht, e⟩ := List.any_eq_true.1 hk
        obtain ⟨j', hj', rfl⟩ := List.mem_iff_getElem.1 ht
        exact ⟨j', hj', by simpa using e, b.top j' hj' hlt⟩
    · rw [if_neg hk]
      obtain ⟨x, hx⟩ : ∃ x : StepD, (⟨actD p s a.1 a.2, a.1, a.2, i⟩ : StepD) = x := ⟨_, rfl⟩
      rw [hx]
      have hxa : x.at_ = actD p s a.1 a.2 ∧ x.kind = a.1 ∧ x.unit = a.2 ∧ x.from_ = i := by rw [← hx]; exact ⟨rfl, rfl, rfl, rfl⟩
      clear hx
      have hlen : (l ++ [x]).length = l.length + 1 := by simp
      have gl : ∀ j (h : j < l.length), (l ++ [x])[j]'(by rw [hlen]; omega) = l[j] := fun j h => List.getElem_append_left h
      have gr : (l ++ [x])[l.length]'(by rw [hlen]; omega) = x := by rw [List.getElem_append_right (Nat.le_refl _)]; simp
      obtain ⟨dep', hd'⟩ : ∃ dep' : Nat → Nat, dep' = fun j => if j = l.length then dep i + 1 else dep j := ⟨_, rfl⟩
      have dl : ∀ j, j < l.length → dep' j = dep j := fun j h => by rw [hd']; simp only; rw [if_neg (by omega)]
      have dr : dep' l.length = dep i + 1 := by rw [hd']; simp
      clear hd'
      have hfs : Fit n s := by rw [← hs]; exact b.fit i hlt
      refine ⟨dep', ⟨⟨by rw [hlen]; omega, fun h => ?_, fun j h => ?_, ?_, fun j h h0 => ?_, fun j k hjk hk => ?_, fun j hj hi => ?_, fun j h hji k u k1 k2 hu he' => ?_⟩, by rw [hlen]; omega, fun c hc hce => ?_⟩, ?_⟩
      · rw [gl 0 b.pos]; exact b.first b.pos
      · by_cases hj : j < l.length
        · rw [gl j hj]; exact b.fit j hj
        · obtain rfl : j = l.length := by rw [hlen] at h; omega
          rw [gr, hxa.1]; exact hfs.act _ _
      · rw [dl 0 b.pos]; exact b.dep0
      · by_cases hj : j < l.length
        · obtain ⟨f, h1, hf, hfl, h2, h3, h4⟩ := b.from_ j hj h0
          refine ⟨f, by rw [gl j hj]; exact h1, hf, by rw [hlen]; omega, by rw [dl j hj, dl f hfl]; exact h2, ?_, ?_⟩
          · rw [gl f hfl, gl j hj]; exact h3
          · rw [gl f hfl, gl j hj]; exact h4
        · obtain rfl : j = l.length := by rw [hlen] at h; omega
          refine ⟨i, by rw [gr]; exact hxa.2.2.2, hlt, by rw [hlen]; omega, by rw [dr, dl i hlt], ?_, ?_⟩
          · rw [gr, gl i hlt, hs, hxa.2.1, hxa.2.2.1]; exact he
          · rw [gr, gl i hlt, hs, hxa.2.1, hxa.2.2.1]; exact hxa.1
      · by_cases hkl : k < l.length
        · rw [dl j (by omega), dl k hkl]; exact b.mono j k hjk hkl
        · obtain rfl : k = l.length := by rw [hlen] at hk; omega
          by_cases hjl : j < l.length
          · rw [dl j hjl, dr]; exact b.top j hjl hlt
          · obtain rfl : j = l.length := by omega
            exact Nat.le_refl _
      · rw [dl i hlt]
        by_cases hjl : j < l.length
        · rw [dl j hjl]; exact b.top j hjl hlt
        · obtain rfl : j = l.length := by rw [hlen] at hj; omega
          rw [dr]; exact Nat.le_refl _
      · have hjl : j < l.length := by omega
        rw [gl j hjl] at he' ⊢
        obtain ⟨j', hj', e1, e2⟩ := b.closed j hjl hji k u k1 k2 hu he'
        exact ⟨j', by rw [hlen]; omega, by rw [gl j' hj']; exact e1, by rw [dl j' hj', dl j hjl]; exact e2⟩
      · rw [gl i hlt] at hce ⊢
        rcases List.mem_append.1 hc with hc | hc
        · obtain ⟨j', hj', e1, e2⟩ := b.now c hc hce
          exact ⟨j', by rw [hlen]; omega, by rw [gl j' hj']; exact e1, by rw [dl j' hj', dl i hlt]; exact e2⟩
        · rw [List.mem_singleton.1 hc, hs]
          exact ⟨l.length, by rw [hlen]; omega, by rw [gr, hxa.1], by rw [dr, dl i hlt]; exact Nat.le_refl _⟩
      · rw [gl i hlt]; exact hs
  · rw [if_neg he]
    refine ⟨dep, ⟨b.toBfs, hlt, fun c hc hce => ?_⟩, hs⟩
    rcases List.mem_append.1 hc with hc | hc
    · exact b.now c hc hce
    · rw [List.mem_singleton.1 hc, hs] at hce
      exact absurd hce he
theorem BfsA.fold {p : PressD} {n : Nat} {s0 : StD} {i : Nat} {s : StD} : ∀ (ks : List (Int × Nat)) {l : List StepD} {dep : Nat → Nat} {done : List (Int × Nat)} (b : BfsA p n s0 i l dep done) (hs : (l[i]'b.lt).at_ = s),
    ∃ dep', ∃ b' : BfsA p n s0 i (ks.foldl (addStep p i s) l) dep' (done ++ ks), ((ks.foldl (addStep p i s) l)[i]'b'.lt).at_ = s := by
  intro ks
  induction ks with
  | nil => intro l dep done b hs; exact ⟨dep, by rw [List.append_nil]; exact b, hs⟩
  | cons a ks ih =>
    intro l dep done b hs
    obtain ⟨dep1, b1, hs1⟩ := b.add a hs
    obtain ⟨dep2, b2, hs2⟩ := ih b1 hs1
    rw [List.append_assoc] at b2
    exact ⟨dep2, b2, hs2⟩
theorem kinds_mem {n : Nat} {k : Int} {u : Nat} (k1 : 1 ≤ k) (k2 : k ≤ 12) (hu : u < n) : (k, u) ∈ kindsD n := by
  unfold kindsD
  rw [List.mem_flatMap]
  refine ⟨(k - 1).toNat, List.mem_range.2 (by omega), List.mem_map.2 ⟨u, List.mem_range.2 hu, ?_⟩⟩
  rw [Prod.mk.injEq]
  exact ⟨by omega, rfl⟩
/-- A number more is gone through. -/
theorem Bfs.expand {p : PressD} {n : Nat} {s0 : StD} {i : Nat} {l : List StepD} {dep : Nat → Nat} (b : Bfs p n s0 i l dep) (hi : i < l.length) :
    ∃ dep', Bfs p n s0 (i + 1) (expandD p i l[i].at_ l) dep' := by
  have b0 : BfsA p n s0 i l dep [] := ⟨b, hi, fun a ha => by cases ha⟩
  unfold expandD
  rw [(b.fit i hi).len]
  obtain ⟨dep', b', hs⟩ := b0.fold (kindsD n) rfl
  rw [List.nil_append] at b'
  refine ⟨dep', ⟨b'.pos, b'.first, b'.fit, b'.dep0, b'.from_, b'.mono, fun j hj hi1 => ?_, fun j h hji k u k1 k2 hu he => ?_⟩⟩
  · have h1 := b'.top j hj b'.lt
    have h2 := b'.mono i (i + 1) (by omega) hi1
    omega
  · by_cases hj : j < i
    · exact b'.closed j h hj k u k1 k2 hu he
    · obtain rfl : j = i := by omega
      exact b'.now (k, u) (kinds_mem k1 k2 hu) he

/-- What was there is there still. -/
theorem add_pre (p : PressD) (i : Nat) (s : StD) (l : List StepD) (a : Int × Nat) : l.length ≤ (addStep p i s l a).length ∧ ∀ j (h : j < l.length) (h' : j < (addStep p i s l a).length), (addStep p i s l a)[j] = l[j] := by
  unfold addStep
  split
  · dsimp only
    split
    · exact ⟨Nat.le_refl _, fun j h h' => rfl⟩
    · exact ⟨by simp, fun j h h' => List.getElem_append_left h⟩
  · exact ⟨Nat.le_refl _, fun j h h' => rfl⟩
theorem fold_pre (p : PressD) (i : Nat) (s : StD) : ∀ (ks : List (Int × Nat)) (l : List StepD), l.length ≤ (ks.foldl (addStep p i s) l).length ∧ ∀ j (h : j < l.length) (h' : j < (ks.foldl (addStep p i s) l).length), (ks.foldl (addStep p i s) l)[j] = l[j]
  | [], l => ⟨Nat.le_refl _, fun j h h' => rfl⟩
  | a :: ks, l => by
    obtain ⟨h1, h2⟩ := add_pre p i s l a
    obtain ⟨h3, h4⟩ := fold_pre p i s ks (addStep p i s l a)
    exact ⟨Nat.le_trans h1 h3, fun j h h' => (h4 j (Nat.lt_of_lt_of_le h h1) h').trans (h2 j h _)⟩
theorem expand_pre (p : PressD) (i : Nat) (s : StD) (l : List StepD) : l.length ≤ (expandD p i s l).length ∧ ∀ j (h : j < l.length) (h' : j < (expandD p i s l).length), (expandD p i s l)[j] = l[j] := fold_pre p i s _ l

/-- Where the search ends. -/
theorem search_bfs {p : PressD} {n : Nat} {s0 : StD} (done : StD → Bool) : ∀ (f i : Nat) (l : List StepD) (dep : Nat → Nat), Bfs p n s0 i l dep → Apart l → (∀ j (h : j < l.length), j < i → done l[j].at_ = false) → i ≤ l.length → 32768 < f + i →
    ∃ dep', ((searchD p done f i l).2 = -1 ∧ Bfs p n s0 (searchD p done f i l).1.length (searchD p done f i l).1 dep' ∧ ∀ j (h : j < (searchD p done f i l).1.length), done (searchD p done f i l).1[j].at_ = false) ∨
      ∃ m : Nat, (searchD p done f i l).2 = m ∧ ∃ hm : m < (searchD p done f i l).1.length, done (searchD p done f i l).1[m].at_ = true ∧ Bfs p n s0 m (searchD p done f i l).1 dep' ∧ ∀ j (h : j < (searchD p done f i l).1.length), j < m → done (searchD p done f i l).1[j].at_ = false
  | 0, i, l, dep, b, ha, hd, hi, hf => by have := ha.len; omega
  | f + 1, i, l, dep, b, ha, hd, hi, hf => by
    by_cases hil : i < l.length
    · cases hdn : done l[i].at_
      · have e : searchD p done (f + 1) i l = searchD p done f (i + 1) (expandD p i l[i].at_ l) := by
          conv => lhs; unfold searchD
          rw [List.getElem?_eq_getElem hil]; dsimp only; rw [if_neg (by simp [hdn])]
        obtain ⟨dep', b'⟩ := b.expand hil
        have hle : l.length ≤ (expandD p i l[i].at_ l).length := (expand_pre p i l[i].at_ l).1
        have hpre := (expand_pre p i l[i].at_ l).2
        rw [e]
        refine search_bfs done f (i + 1) _ dep' b' (foldl_apart _ ha) (fun j h hji => ?_) (by omega) (by omega)
        have hjl : j < l.length := by omega
        rw [hpre j hjl h]
        by_cases hj : j < i
        · exact hd j hjl hj
        · obtain rfl : j = i := by omega
          exact hdn
      · have e : searchD p done (f + 1) i l = (l, (i:Int)) := by
          unfold searchD; rw [List.getElem?_eq_getElem hil]; dsimp only; rw [if_pos hdn]
        rw [e]
        exact ⟨dep, .inr ⟨i, rfl, hil, hdn, b, hd⟩⟩
    · have e : searchD p done (f + 1) i l = (l, -1) := by
        unfold searchD; rw [List.getElem?_eq_none (by omega)]
      rw [e]
      obtain rfl : i = l.length := by omega
      exact ⟨dep, .inl ⟨rfl, b, fun j h => hd j h h⟩⟩
end Go.Proofs.Ytojobdffnnibaaa

/- Programs and the search: found ones lead there, are shortest; where none is found, none leads there. -/
namespace Go.Proofs.Ytojobdffnnibaaa
set_option linter.unusedVariables false

/-- Actions, one after the other, all allowed. -/
def Run (p : PressD) : StD → List (Int × Int) → StD → Prop
  | s, [], t => s = t
  | s, a :: ac, t => actErr p s a.1 a.2 = 0 ∧ Run p (actD p s a.1 a.2) ac t
theorem Run.append {p : PressD} : ∀ {ac bs : List (Int × Int)} {s t r : StD}, Run p s ac t → Run p t bs r → Run p s (ac ++ bs) r
  | [], bs, s, t, r, h, k => by rw [show s = t from h]; exact k
  | a :: ac, bs, s, t, r, h, k => ⟨h.1, Run.append h.2 k⟩
theorem Run.prog {p : PressD} : ∀ {ac : List (Int × Int)} {s t : StD} (i : Nat), Run p s ac t → progR p s i ac = (t, i + ac.length, 0)
  | [], s, t, i, h => by rw [show s = t from h]; rfl
  | a :: ac, s, t, i, h => by
    rw [progR_ok h.1, Run.prog (i + 1) h.2, List.length_cons]
    congr 2; omega
theorem prog_run {p : PressD} : ∀ {ac : List (Int × Int)} {s : StD} {i : Nat}, (progR p s i ac).2.2 = 0 → Run p s ac (progR p s i ac).1
  | [], s, i, h => rfl
  | a :: ac, s, i, h => by
    by_cases he : actErr p s a.1 a.2 = 0
    · rw [progR_ok he] at h ⊢
      exact ⟨he, prog_run h⟩
    · rw [progR_no he] at h
      exact absurd h he
theorem err_unit {p : PressD} {s : StD} {k x : Int} (h : actErr p s k x = 0) : 1 ≤ k ∧ k ≤ 12 ∧ 0 ≤ x ∧ x.toNat < s.units.length := by
  unfold actErr at h
  split at h
  · simp at h
  · rename_i h1
    split at h
    · simp at h
    · omega

theorem follow {p : PressD} {n : Nat} {s0 : StD} {i : Nat} {l : List StepD} {dep : Nat → Nat} (b : Bfs p n s0 i l dep) (hn : n ≤ 3) : ∀ (ac : List (Int × Int)) (j : Nat) (hj : j < l.length) (s t : StD), SS l[j].at_ s → Fit n s → Run p s ac t →
    (∀ m, m < l.length → dep m < dep j + ac.length → m < i) → ∃ j', ∃ h' : j' < l.length, SS l[j'].at_ t ∧ dep j' ≤ dep j + ac.length
  | [], j, hj, s, t, hs, hf, hr, hc => ⟨j, hj, (show s = t from hr) ▸ hs, Nat.le_refl _⟩
  | a :: ac, j, hj, s, t, hs, hf, hr, hc => by
    have hji := hc j hj (by rw [List.length_cons]; omega)
    obtain ⟨he, hr⟩ := hr
    obtain ⟨k1, k2, x1, x2⟩ := err_unit he
    obtain ⟨u, hu⟩ : ∃ u : Nat, a.2 = u := ⟨a.2.toNat, by omega⟩
    rw [hu] at he hr x2
    have he2 : actErr p l[j].at_ a.1 u = 0 := by rw [hs.err]; exact he
    obtain ⟨j1, hj1, e1, e2⟩ := b.closed j hj hji a.1 u k1 k2 (by rw [← hf.len]; simpa using x2) he2
    have f1 := b.fit j1 hj1
    have f2 : Fit n (actD p l[j].at_ a.1 u) := (b.fit j hj).act _ _
    have s1 : SS l[j1].at_ (actD p l[j].at_ a.1 u) := sit_ss e1 f1.dr f2.dr (f1.len.trans f2.len.symm) (by rw [f1.len]; exact hn)
    obtain ⟨j2, hj2, s2, d2⟩ := follow b hn ac j1 hj1 _ t (s1.trans (hs.act _ _)) (hf.act _ _) hr (fun m hm hd => hc m hm (by rw [List.length_cons]; omega))
    exact ⟨j2, hj2, s2, by rw [List.length_cons]; omega⟩

/-- Back to the first step. -/
theorem back_run {p : PressD} {n : Nat} {s0 : StD} {i : Nat} {l : List StepD} {dep : Nat → Nat} (b : Bfs p n s0 i l dep) : ∀ (f j : Nat) (hj : j < l.length), j < f → Run p s0 (backD l f j).reverse l[j].at_ ∧ (backD l f j).length = dep j
  | 0, j, hj, hf => by omega
  | f + 1, j, hj, hf => by
    by_cases h0 : j = 0
    · subst h0
      obtain ⟨h1, h2⟩ := b.first hj
      have e : backD l (f + 1) ((0:Nat):Int) = [] := backD_stop (by simpa using hj) (by simp [h2])
      rw [e, h1]
      exact ⟨rfl, by rw [b.dep0]; rfl⟩
    · obtain ⟨q, hq, hqj, hql, hd, he, ha⟩ := b.from_ j hj (by omega)
      have e : backD l (f + 1) (j:Int) = (l[j].kind, l[j].unit) :: backD l f q := by
        have := backD_step (l := l) (f := f) (i := (j:Int)) (by simpa using hj) (by simp [hq])
        simpa [hq] using this
      obtain ⟨r1, r2⟩ := back_run b f q hql (by omega)
      rw [e, List.reverse_cons]
      refine ⟨r1.append ⟨he, ha.symm⟩, ?_⟩
      rw [List.length_cons, r2, hd]

/-- The search for a goal. -/
structure Seek (p : PressD) (s : StD) (g : GoalD) : Prop where
  none_ : (seekD p s g).2 < 0 → ∀ ac t, Run p s ac t → fulD g t = false
  some_ : 0 ≤ (seekD p s g).2 → ∃ t, Run p s (findD p s g) t ∧ fulD g t = true ∧ ∀ ac r, Run p s ac r → fulD g r = true → (findD p s g).length ≤ ac.length
theorem seek_all {p : PressD} {s : StD} (g : GoalD) (hd : 0 ≤ s.drive ∧ s.drive ≤ 2) (hl : s.units.length ≤ 3) : Seek p s g := by
  have b0 : Bfs p s.units.length s 0 [⟨s, 0, 0, -1⟩] (fun _ => 0) := by
    refine ⟨by simp, fun _ => ⟨rfl, rfl⟩, fun j h => ?_, rfl, fun j h h0 => ?_, fun j k _ _ => Nat.le_refl _, fun j _ _ => Nat.zero_le _, fun j h hj => by omega⟩
    · obtain rfl : j = 0 := by simpa using h
      exact ⟨hd, rfl⟩
    · have : j = 0 := by simpa using h
      omega
  have hap : Apart [(⟨s, 0, 0, -1⟩ : StepD)] := by unfold Apart; simp
  obtain ⟨dep, hs⟩ := search_bfs (fulD g) 40000 0 _ _ b0 hap (fun j _ h => by omega) (Nat.zero_le _) (by omega)
  have e : seekD p s g = searchD p (fulD g) 40000 0 [⟨s, 0, 0, -1⟩] := rfl
  rw [← e] at hs
  obtain ⟨r, hr⟩ : ∃ r, seekD p s g = r := ⟨_, rfl⟩
  have hok := seek_ok p s g
  have hfd : findD p s g = (backD r.1 40000 r.2).reverse := by unfold findD; rw [hr]
  rw [hr] at hs hok
  refine ⟨fun h ac t hrun => ?_, fun h => ?_⟩
  · rw [hr] at h
    rcases hs with ⟨_, b, hno⟩ | ⟨m, hm, _⟩
    · obtain ⟨j', hj', ss, _⟩ := follow b hl ac 0 b.pos s t (by rw [(b.first b.pos).1]; exact SS.refl s) ⟨hd, rfl⟩ hrun (fun m hm _ => hm)
      have := hno j' hj'
      rw [ss.ful] at this
      exact this
    · omega
  · rw [hr] at h
    rcases hs with ⟨h1, _⟩ | ⟨m, hm, hml, hdn, b, hno⟩
    · omega
    · have hlen := hok.apart.len
      obtain ⟨r1, r2⟩ := back_run b 40000 m hml (by omega)
      rw [hm] at hfd
      rw [hfd]
      refine ⟨_, r1, hdn, fun ac t hrun hful => ?_⟩
      rw [List.length_reverse, r2]
      apply Classical.byContradiction
      intro hlt
      have hlt : ac.length < dep m := by omega
      obtain ⟨j', hj', ss, hdj⟩ := follow b hl ac 0 b.pos s t (by rw [(b.first b.pos).1]; exact SS.refl s) ⟨hd, rfl⟩ hrun (fun q hq hdq => by
        rw [b.dep0] at hdq
        apply Classical.byContradiction
        intro hqm
        have := b.mono m q (by omega) hq
        omega)
      rw [b.dep0] at hdj
      have hjm : j' < m := by
        apply Classical.byContradiction
        intro hqm
        have := b.mono m j' (by omega) hj'
        omega
      have := hno j' hj' hjm
      rw [ss.ful, hful] at this
      cases this
end Go.Proofs.Ytojobdffnnibaaa

/- After a break there is a program that prints again, in plain words. -/
namespace Go.Proofs.Ytojobdffnnibaaa
set_option linter.unusedVariables false

/-- A state told by a function. -/
def stF (d : Int) (f : Nat → UnitD) (n : Nat) : StD := ⟨d, false, (List.range n).map f, 0⟩
theorem stF_len (d : Int) (f : Nat → UnitD) (n : Nat) : (stF d f n).units.length = n := by simp [stF]
theorem set_range (f : Nat → UnitD) (n i : Nat) (v : UnitD) : ((List.range n).map f).set i v = (List.range n).map (upd f i v) := by
  apply List.ext_getElem
  · simp
  · intro j h1 h2
    rw [List.getElem_set, List.getElem_map, List.getElem_map, List.getElem_range]
    unfold upd
    by_cases e : i = j
    · rw [if_pos e, if_pos e.symm]
    · rw [if_neg e, if_neg (fun h => e h.symm)]
theorem getD_range (f : Nat → UnitD) (n i : Nat) (h : i < n) : ((List.range n).map f).getD i default = f i := by
  simp [List.getD_eq_getElem?_getD, h]
theorem stF_get (d : Int) (f : Nat → UnitD) (n i : Nat) (h : i < n) : (stF d f n).units.getD i default = f i := getD_range f n i h
theorem stF_unit {k : Int} (hk : k = 1 ∨ k = 2 ∨ k = 3 ∨ k = 4 ∨ k = 5 ∨ k = 6 ∨ k = 12) (d : Int) (f : Nat → UnitD) (n i : Nat) (h : i < n) : doD (stF d f n) k i = stF d (upd f i (unitD k (f i))) n := by
  unfold doD
  rw [if_neg (by omega), if_neg (by omega), if_neg (by omega), if_neg (by omega), if_neg (by omega), stF_get d f n i h]
  unfold stF
  dsimp only
  rw [set_range]
theorem stF_opened (d : Int) (f : Nat → UnitD) (n : Nat) (h : ∀ j, j < n → (f j).op = false) : opened (stF d f n) = false := by
  unfold opened stF
  simp only [Bool.false_or]
  rw [List.any_eq_false]
  intro u hu
  obtain ⟨j, hj, rfl⟩ := List.mem_map.1 hu
  simp [h j (List.mem_range.1 hj)]
theorem stF_any (d : Int) (f : Nat → UnitD) (n : Nat) (h : ∃ j, j < n ∧ (f j).pr = true) : anyPr (stF d f n) = true := by
  obtain ⟨j, hj, hp⟩ := h
  unfold anyPr stF
  exact List.any_eq_true.2 ⟨f j, List.mem_map.2 ⟨j, List.mem_range.2 hj, rfl⟩, hp⟩
theorem act_ok {p : PressD} {s : StD} {k : Int} {i : Nat} (k1 : 1 ≤ k) (k2 : k ≤ 12) (hi : i < s.units.length) (hu : ofUnit k = false → i = 0) (ha : allowD p s k i = true) : actErr p s k i = 0 := by
  unfold actErr
  rw [if_neg (by omega), if_neg, Int.toNat_natCast, if_pos ha]
  rintro (h | h | ⟨h1, h2⟩)
  · omega
  · omega
  · have := hu h1
    omega
theorem act_do {p : PressD} {s : StD} {k : Int} {i : Nat} (h : actErr p s k i = 0) : actD p s k i = doD s k i := by
  unfold actD; rw [if_pos h, Int.toNat_natCast]

def uZ : UnitD := ⟨false, false, false, false, 0⟩
/-- The towers behind k of them: those that are not jammed are washed and threaded, and pressed as the truths say. -/
def rpF (jam on : List Bool) (k : Nat) : Nat → UnitD := fun j => if j < k ∧ jam.getD j false = false then ⟨false, true, true, on.getD j false, 0⟩ else uZ
/-- While tower k is made ready: q actions are done. -/
def subU (q : Nat) : UnitD := ⟨false, decide (2 ≤ q), decide (1 ≤ q), decide (3 ≤ q), 0⟩
theorem rpF_zero (jam on : List Bool) : rpF jam on 0 = fun _ => uZ := by funext j; unfold rpF; rw [if_neg (by omega)]
theorem rpF_jam (jam on : List Bool) (k : Nat) (h : jam.getD k false = true) : rpF jam on (k + 1) = rpF jam on k := by
  funext j
  unfold rpF
  by_cases hj : j = k
  · subst hj; rw [if_neg (by rw [h]; simp), if_neg (by rw [h]; simp)]
  · have : (j < k + 1 ∧ jam.getD j false = false) ↔ (j < k ∧ jam.getD j false = false) := by constructor <;> (rintro ⟨h1, h2⟩; exact ⟨by omega, h2⟩)
    simp only [this]
theorem rpF_at (jam on : List Bool) (k : Nat) : rpF jam on k k = subU 0 := by unfold rpF; rw [if_neg (by omega)]; rfl
theorem rpF_next (jam on : List Bool) (k : Nat) (h : jam.getD k false = false) (q : Nat) (hq : q = if on.getD k false then 3 else 2) : upd (rpF jam on k) k (subU q) = rpF jam on (k + 1) := by
  funext j
  unfold upd rpF
  by_cases hj : j = k
  · subst hj
    rw [if_pos rfl, if_pos ⟨by omega, h⟩, hq]
    cases on.getD j false <;> rfl
  · rw [if_neg hj]
    have : (j < k + 1 ∧ jam.getD j false = false) ↔ (j < k ∧ jam.getD j false = false) := by constructor <;> (rintro ⟨h1, h2⟩; exact ⟨by omega, h2⟩)
    simp only [this]
theorem upd_upd (f : Nat → UnitD) (k : Nat) (a b : UnitD) : upd (upd f k a) k b = upd f k b := by
  funext j; unfold upd; by_cases h : j = k <;> simp [h]
theorem upd_id (f : Nat → UnitD) (k : Nat) : upd f k (f k) = f := by
  funext j; unfold upd; by_cases h : j = k
  · rw [if_pos h, h]
  · rw [if_neg h]
/-- Its actions: wash, thread, press. -/
def rpK (q : Nat) : Int := if q = 0 then 4 else if q = 1 then 3 else 5
theorem sub_unit (q : Nat) (h : q < 3) : unitD (rpK q) (subU q) = subU (q + 1) := by
  have : q = 0 ∨ q = 1 ∨ q = 2 := by omega
  rcases this with rfl | rfl | rfl <;> rfl
theorem sub_act {p : PressD} {f : Nat → UnitD} {n k q : Nat} (hk : k < n) (hj : p.jam.getD k false = false) (hq : q < 3) :
    actErr p (stF 1 (upd f k (subU q)) n) (rpK q) k = 0 ∧ doD (stF 1 (upd f k (subU q)) n) (rpK q) k = stF 1 (upd f k (subU (q + 1))) n := by
  have hg : (stF 1 (upd f k (subU q)) n).units.getD k default = subU q := by rw [stF_get _ _ _ _ hk, upd_same]
  have h3 : q = 0 ∨ q = 1 ∨ q = 2 := by omega
  refine ⟨act_ok (by unfold rpK; repeat' split; all_goals omega) (by unfold rpK; repeat' split; all_goals omega) (by rw [stF_len]; exact hk) (fun h => by rcases h3 with rfl | rfl | rfl <;> cases h) ?_, ?_⟩
  · unfold allowD
    rw [hg]
    rcases h3 with rfl | rfl | rfl
    · simp [-List.getD_eq_getElem?_getD, rpK, stF, subU, hj]
    · simp [rpK, stF, subU]
    · simp [rpK, stF, subU]
  · rw [stF_unit (by unfold rpK; rcases h3 with rfl | rfl | rfl <;> simp) _ _ _ _ hk, upd_same, sub_unit q hq, upd_upd]

/-- The towers are pressed one after the other. -/
def onL (P : Nat → Bool) (m : Nat) : List (Int × Int) := ((List.range m).filter P).map fun (j : Nat) => ((5 : Int), (j : Int))
theorem on_run {p : PressD} {n : Nat} {f : Nat → UnitD} {P : Nat → Bool} (hf : ∀ j, j < n → P j = true → (f j).th = true ∧ (f j).cl = true) (hn : ∀ j, j < n → (f j).pr = false) : ∀ m, m ≤ n →
    Run p (stF 1 f n) (onL P m) (stF 1 (fun j => if j < m ∧ P j = true then { f j with pr := true } else f j) n)
  | 0, _ => by
    have : (fun j => if j < 0 ∧ P j = true then { f j with pr := true } else f j) = f := by funext j; rw [if_neg (by omega)]
    rw [this]
    exact rfl
  | m + 1, hm => by
    have ih := on_run (p := p) hf hn m (by omega)
    unfold onL at ih ⊢
    rw [List.range_succ, List.filter_append, List.map_append]
    refine ih.append ?_
    obtain ⟨h, hh⟩ : ∃ h : Nat → UnitD, h = fun j => if j < m ∧ P j = true then { f j with pr := true } else f j := ⟨_, rfl⟩
    rw [← hh]
    have hm1 : h m = f m := by rw [hh]; simp
    by_cases hP : P m = true
    · have e1 : List.map (fun j : Nat => ((5:Int), (j:Int))) (List.filter P [m]) = [((5:Int), (m:Int))] := by simp [hP]
      rw [e1]
      have hw := hf m (by omega) hP
      have ha : actErr p (stF 1 h n) 5 m = 0 := act_ok (by omega) (by omega) (by rw [stF_len]; omega) (fun h => by cases h) (by
        unfold allowD
        rw [stF_get _ _ _ _ (by omega), hm1]
        simp [stF, hw.1, hw.2, hn m (by omega)])
      refine ⟨ha, ?_⟩
      show actD p (stF 1 h n) 5 m = _
      rw [act_do ha, stF_unit (by simp) _ _ _ _ (by omega), hm1]
      unfold stF
      congr 2
      funext j
      unfold upd
      by_cases hj : j = m
      · rw [if_pos hj, if_pos ⟨by omega, by rw [hj]; exact hP⟩, hj]; rfl
      · rw [if_neg hj, hh]
        have : (j < m + 1 ∧ P j = true) ↔ (j < m ∧ P j = true) := by constructor <;> (rintro ⟨h1, h2⟩; exact ⟨by omega, h2⟩)
        simp only [this]
    · have e1 : List.map (fun j : Nat => ((5:Int), (j:Int))) (List.filter P [m]) = [] := by simp [hP]
      rw [e1]
      show stF 1 h n = _
      rw [hh]
      unfold stF
      congr 2
      funext j
      have : (j < m + 1 ∧ P j = true) ↔ (j < m ∧ P j = true) := by
        constructor
        · rintro ⟨h1, h2⟩
          refine ⟨?_, h2⟩
          rcases Nat.lt_or_ge j m with h | h
          · exact h
          · obtain rfl : j = m := by omega
            exact absurd h2 hP
        · rintro ⟨h1, h2⟩; exact ⟨by omega, h2⟩
      simp only [this]

/-- The press that was broken. -/
theorem brk_stF (d : Int) (f : Nat → UnitD) (n u : Nat) (hu : u < n) : brD (stF d f n) u = stF 0 (upd (fun j => offP (f j)) u (torn (offP (f u)))) n := by
  unfold brD
  rw [stF_get _ _ _ _ hu]
  unfold stF
  dsimp only
  rw [List.map_map]
  congr 1
  exact set_range _ n u _
/-- After a break there is a program that prints again. -/
theorem repair {p : PressD} {n u : Nat} {on : List Bool} (hn : p.jam.length = n) (hu : u < n) (hj : p.jam.getD u false = false) (hany : ∃ j, j < n ∧ p.jam.getD j false = false ∧ on.getD j false = true) :
    ∃ t ac, Run p (brD (stF 2 (rpF p.jam on n) n) u) ac t ∧ fulD ⟨2, (stF 2 (rpF p.jam on n) n).units.map (·.pr)⟩ t = true ∧ ac.length ≤ n + 4 := by
  obtain ⟨f0, hf0⟩ : ∃ f0 : Nat → UnitD, f0 = upd (fun j => offP (rpF p.jam on n j)) u (torn (offP (rpF p.jam on n u))) := ⟨_, rfl⟩
  have hru : rpF p.jam on n u = ⟨false, true, true, on.getD u false, 0⟩ := by unfold rpF; rw [if_pos ⟨hu, hj⟩]
  have h0u : f0 u = uZ := by rw [hf0, upd_same, hru]; rfl
  have h0j : ∀ j, j ≠ u → f0 j = offP (rpF p.jam on n j) := fun j h => by rw [hf0, upd_other _ _ _ _ h]
  have hop : ∀ j, (f0 j).op = false := fun j => by
    by_cases h : j = u
    · rw [h, h0u]; rfl
    · rw [h0j j h]; unfold rpF offP; split <;> rfl
  have hpr : ∀ j, (f0 j).pr = false := fun j => by
    by_cases h : j = u
    · rw [h, h0u]; rfl
    · rw [h0j j h]; rfl
  rw [brk_stF _ _ _ _ hu, ← hf0]
  -- crawl
  have a1 : actErr p (stF 0 f0 n) 7 ((0:Nat):Int) = 0 := act_ok (by omega) (by omega) (by rw [stF_len]; omega) (fun _ => rfl) (by
    unfold allowD
    rw [stF_opened 0 f0 n (fun j _ => hop j)]
    simp [stF])
  have e1 : actD p (stF 0 f0 n) 7 ((0:Nat):Int) = stF 1 f0 n := by rw [act_do a1]; rfl
  have hs0 : upd f0 u (subU 0) = f0 := by
    have : subU 0 = f0 u := by rw [h0u]; rfl
    rw [this, upd_id]
  have s1 := sub_act (p := p) (f := f0) (q := 0) hu hj (by omega)
  have s2 := sub_act (p := p) (f := f0) (q := 1) hu hj (by omega)
  rw [hs0] at s1
  obtain ⟨f2, hf2⟩ : ∃ f2, f2 = upd f0 u (subU 2) := ⟨_, rfl⟩
  have hr1 : Run p (stF 0 f0 n) [(7, ((0:Nat):Int)), (rpK 0, (u:Int)), (rpK 1, (u:Int))] (stF 1 f2 n) := by
    refine ⟨a1, ?_⟩
    show Run p (actD p (stF 0 f0 n) 7 ((0:Nat):Int)) _ _
    rw [e1]
    refine ⟨s1.1, ?_⟩
    show Run p (actD p (stF 1 f0 n) (rpK 0) (u:Int)) _ _
    rw [act_do s1.1, s1.2]
    refine ⟨s2.1, ?_⟩
    show actD p _ (rpK 1) (u:Int) = _
    rw [act_do s2.1, s2.2, hf2]
  obtain ⟨P, hP⟩ : ∃ P : Nat → Bool, P = fun j => !p.jam.getD j false && on.getD j false := ⟨_, rfl⟩
  have h2w : ∀ j, j < n → P j = true → (f2 j).th = true ∧ (f2 j).cl = true := fun j hjn hp => by
    rw [hP] at hp
    simp only [Bool.and_eq_true, Bool.not_eq_true'] at hp
    rw [hf2]
    by_cases h : j = u
    · rw [h, upd_same]; exact ⟨rfl, rfl⟩
    · rw [upd_other _ _ _ _ h, h0j j h]
      unfold rpF
      rw [if_pos ⟨hjn, hp.1⟩]
      exact ⟨rfl, rfl⟩
  have h2p : ∀ j, j < n → (f2 j).pr = false := fun j hjn => by
    rw [hf2]
    by_cases h : j = u
    · rw [h, upd_same]; rfl
    · rw [upd_other _ _ _ _ h]; exact hpr j
  have hr2 := on_run (p := p) h2w h2p n (Nat.le_refl _)
  obtain ⟨f3, hf3⟩ : ∃ f3 : Nat → UnitD, f3 = fun j => if j < n ∧ P j = true then { f2 j with pr := true } else f2 j := ⟨_, rfl⟩
  rw [← hf3] at hr2
  have h3p : ∀ j, j < n → (f3 j).pr = P j := fun j hjn => by
    rw [hf3]
    dsimp only
    by_cases hp : P j = true
    · rw [if_pos ⟨hjn, hp⟩, hp]
    · rw [if_neg (fun h => hp h.2), h2p j hjn]; simpa using hp
  have a3 : actErr p (stF 1 f3 n) 8 ((0:Nat):Int) = 0 := act_ok (by omega) (by omega) (by rw [stF_len]; omega) (fun _ => rfl) (by
    unfold allowD
    have : anyPr (stF 1 f3 n) = true := stF_any 1 f3 n (by
      obtain ⟨j, hjn, h1, h2⟩ := hany
      exact ⟨j, hjn, by rw [h3p j hjn, hP]; dsimp only; rw [h1, h2]; rfl⟩)
    rw [this]
    simp [stF])
  have e3 : actD p (stF 1 f3 n) 8 ((0:Nat):Int) = stF 2 f3 n := by rw [act_do a3]; rfl
  have hr3 : Run p (stF 1 f3 n) [(8, ((0:Nat):Int))] (stF 2 f3 n) := ⟨a3, e3⟩
  refine ⟨_, _, (hr1.append hr2).append hr3, ?_, ?_⟩
  · unfold fulD
    simp only [Bool.and_eq_true, beq_iff_eq]
    refine ⟨rfl, ?_⟩
    unfold stF
    dsimp only
    rw [List.map_map, List.map_map]
    apply List.map_congr_left
    intro j hj'
    have hjn := List.mem_range.1 hj'
    show (f3 j).pr = (rpF p.jam on n j).pr
    rw [h3p j hjn, hP]
    unfold rpF
    by_cases hjj : p.jam.getD j false = false
    · rw [if_pos ⟨hjn, hjj⟩]
      dsimp only
      rw [hjj]; rfl
    · rw [if_neg (fun h => hjj h.2)]
      have hj1 : p.jam.getD j false = true := by cases h : p.jam.getD j false; exact absurd h hjj; rfl
      dsimp only
      rw [hj1]; rfl
  · have : (onL P n).length ≤ n := by
      unfold onL
      rw [List.length_map]
      exact Nat.le_trans (List.length_filter_le _ _) (by simp)
    simp only [List.length_append, List.length_cons, List.length_nil]
    omega
end Go.Proofs.Ytojobdffnnibaaa

/- From any state of a press that may be reached a goal, if it can be reached, is reached by few actions. In plain words. -/
namespace Go.Proofs.Ytojobdffnnibaaa
set_option linter.unusedVariables false

/-- A state told by its towers. -/
def gF (d : Int) (fo : Bool) (f : Nat → UnitD) (n : Nat) (fr : Int) : StD := ⟨d, fo, (List.range n).map f, fr⟩
theorem gF_len (d : Int) (fo : Bool) (f : Nat → UnitD) (n : Nat) (fr : Int) : (gF d fo f n fr).units.length = n := by simp [gF]
theorem gF_get (d : Int) (fo : Bool) (f : Nat → UnitD) (n : Nat) (fr : Int) (i : Nat) (h : i < n) : (gF d fo f n fr).units.getD i default = f i := getD_range f n i h
theorem gF_of (s : StD) : s = gF s.drive s.folder (fun j => s.units.getD j default) s.units.length s.fresh := by
  unfold gF
  obtain ⟨d, fo, us, fr⟩ := s
  dsimp only
  congr 1
  apply List.ext_getElem
  · simp
  · intro k h1 h2; simp [h1]
theorem gF_congr {d : Int} {fo : Bool} {f g : Nat → UnitD} {n : Nat} {fr : Int} (h : ∀ j, j < n → f j = g j) : gF d fo f n fr = gF d fo g n fr := by
  unfold gF
  congr 1
  exact List.map_congr_left fun j hj => h j (List.mem_range.1 hj)
theorem gF_unit {k : Int} (hk : k = 1 ∨ k = 2 ∨ k = 3 ∨ k = 4 ∨ k = 5 ∨ k = 6 ∨ k = 12) (d : Int) (fo : Bool) (f : Nat → UnitD) (n : Nat) (fr : Int) (i : Nat) (h : i < n) : doD (gF d fo f n fr) k i = gF d fo (upd f i (unitD k (f i))) n fr := by
  unfold doD
  rw [if_neg (by omega), if_neg (by omega), if_neg (by omega), if_neg (by omega), if_neg (by omega), gF_get _ _ _ _ _ _ h]
  unfold gF
  dsimp only
  rw [set_range]

/-- What a tower alone allows. -/
def locOk (d : Int) (jam : Bool) (k : Int) (u : UnitD) : Bool :=
  if k = 1 then d == 0 && !u.op else if k = 2 then u.op else if k = 3 then d == 1 && !u.th else if k = 4 then d == 1 && !u.th && !jam
  else if k = 5 then d != 0 && u.th && u.cl && !u.pr else if k = 6 then u.pr && d != 2 else if k = 12 then d == 0 && u.op && u.th else false
theorem loc_kind {d : Int} {jam : Bool} {k : Int} {u : UnitD} (h : locOk d jam k u = true) : k = 1 ∨ k = 2 ∨ k = 3 ∨ k = 4 ∨ k = 5 ∨ k = 6 ∨ k = 12 := by
  unfold locOk at h
  repeat' split at h
  all_goals (first | omega | cases h)
theorem loc_act {p : PressD} {d : Int} {fo : Bool} {f : Nat → UnitD} {n : Nat} {fr k : Int} {i : Nat} (hi : i < n) (h : locOk d (p.jam.getD i false) k (f i) = true) :
    actErr p (gF d fo f n fr) k i = 0 ∧ actD p (gF d fo f n fr) k i = gF d fo (upd f i (unitD k (f i))) n fr := by
  have hk := loc_kind h
  have he : actErr p (gF d fo f n fr) k i = 0 := by
    refine act_ok (by omega) (by omega) (by rw [gF_len]; exact hi) (fun h => ?_) ?_
    · exfalso
      unfold ofUnit at h
      simp at h
      omega
    · unfold allowD
      rw [gF_get _ _ _ _ _ _ hi]
      have hd : (gF d fo f n fr).drive = d := rfl
      rw [hd]
      rcases hk with rfl | rfl | rfl | rfl | rfl | rfl | rfl
      · simpa [locOk] using h
      · simpa [locOk] using h
      · simpa [locOk] using h
      · simpa [-List.getD_eq_getElem?_getD, locOk] using h
      · simpa [locOk] using h
      · simp [locOk] at h; simp [h.1, h.2]
      · simpa [locOk] using h
  exact ⟨he, by rw [act_do he, gF_unit hk _ _ _ _ _ _ hi]⟩
/-- Deeds at one tower. -/
def LocRun (d : Int) (jam : Bool) : UnitD → List Int → UnitD → Prop
  | u, [], v => u = v
  | u, k :: ks, v => locOk d jam k u = true ∧ LocRun d jam (unitD k u) ks v
theorem unit_run {p : PressD} {d : Int} {fo : Bool} {n : Nat} {fr : Int} {i : Nat} (hi : i < n) : ∀ (ks : List Int) (f : Nat → UnitD) (v : UnitD), LocRun d (p.jam.getD i false) (f i) ks v →
    Run p (gF d fo f n fr) (ks.map fun k => (k, (i : Int))) (gF d fo (upd f i v) n fr)
  | [], f, v, h => by
    have : f i = v := h
    rw [List.map_nil, ← this, upd_id]
    exact rfl
  | k :: ks, f, v, h => by
    obtain ⟨h1, h2⟩ := h
    obtain ⟨e1, e2⟩ := loc_act (p := p) (fo := fo) (fr := fr) hi h1
    rw [List.map_cons]
    refine ⟨e1, ?_⟩
    show Run p (actD p (gF d fo f n fr) k i) _ _
    rw [e2]
    have := unit_run (p := p) (fo := fo) (fr := fr) hi ks (upd f i (unitD k (f i))) v (by rw [upd_same]; exact h2)
    rw [upd_upd] at this
    exact this
/-- The same at all towers, one after the other. -/
theorem phase {p : PressD} {d : Int} {fo : Bool} {n : Nat} {fr : Int} {f g : Nat → UnitD} {c : Nat} (h : ∀ j, j < n → ∃ ks, LocRun d (p.jam.getD j false) (f j) ks (g j) ∧ ks.length ≤ c) : ∀ m, m ≤ n →
    ∃ ac, Run p (gF d fo f n fr) ac (gF d fo (fun j => if j < m then g j else f j) n fr) ∧ ac.length ≤ c * m
  | 0, _ => ⟨[], by
      have : (fun j => if j < 0 then g j else f j) = f := by funext j; rw [if_neg (by omega)]
      rw [this]; exact rfl, Nat.zero_le _⟩
  | m + 1, hm => by
    obtain ⟨ac, h1, h2⟩ := phase (p := p) (d := d) (fo := fo) (fr := fr) h m (by omega)
    obtain ⟨ks, h3, h4⟩ := h m (by omega)
    have h5 := unit_run (p := p) (d := d) (fo := fo) (fr := fr) (i := m) (n := n) (by omega) ks (fun j => if j < m then g j else f j) (g m) (by rw [if_neg (by omega)]; exact h3)
    refine ⟨ac ++ ks.map fun k => (k, (m : Int)), ?_, ?_⟩
    · refine h1.append ?_
      have e : upd (fun j => if j < m then g j else f j) m (g m) = fun j => if j < m + 1 then g j else f j := by
        funext j
        unfold upd
        by_cases hj : j = m
        · rw [if_pos hj, if_pos (by omega), hj]
        · rw [if_neg hj]
          show (if j < m then g j else f j) = _
          by_cases h : j < m
          · rw [if_pos h, if_pos (by omega)]
          · rw [if_neg h, if_neg (by omega)]
      rw [← e]
      exact h5
    · rw [List.length_append, List.length_map, Nat.mul_succ]; omega
theorem phase_all {p : PressD} {d : Int} {fo : Bool} {n : Nat} {fr : Int} {f g : Nat → UnitD} {c : Nat} (h : ∀ j, j < n → ∃ ks, LocRun d (p.jam.getD j false) (f j) ks (g j) ∧ ks.length ≤ c) :
    ∃ ac, Run p (gF d fo f n fr) ac (gF d fo g n fr) ∧ ac.length ≤ c * n := by
  obtain ⟨ac, h1, h2⟩ := phase (p := p) (d := d) (fo := fo) (fr := fr) h n (Nat.le_refl _)
  rw [gF_congr (g := g) (fun j hj => if_pos hj)] at h1
  exact ⟨ac, h1, h2⟩

/-- Deeds that concern no tower. -/
theorem big_act {p : PressD} {s : StD} {k : Int} (hk : 7 ≤ k ∧ k ≤ 11) (h0 : 0 < s.units.length) (h : allowD p s k 0 = true) : Run p s [(k, 0)] (doD s k 0) := by
  have he : actErr p s k ((0 : Nat) : Int) = 0 := act_ok (by omega) (by omega) h0 (fun _ => rfl) h
  exact ⟨he, by
    show actD p s k ((0 : Nat) : Int) = _
    exact act_do he⟩
theorem gF_opened {d : Int} {f : Nat → UnitD} {n : Nat} {fr : Int} (h : ∀ j, j < n → (f j).op = false) : opened (gF d false f n fr) = false := by
  unfold opened gF
  simp only [Bool.false_or]
  rw [List.any_eq_false]
  intro u hu
  obtain ⟨j, hj, rfl⟩ := List.mem_map.1 hu
  simp [h j (List.mem_range.1 hj)]
theorem gF_none {d : Int} {fo : Bool} {f : Nat → UnitD} {n : Nat} {fr : Int} (h : ∀ j, j < n → (f j).pr = false) : anyPr (gF d fo f n fr) = false := by
  unfold anyPr gF
  dsimp only
  rw [List.any_eq_false]
  intro u hu
  obtain ⟨j, hj, rfl⟩ := List.mem_map.1 hu
  simp [h j (List.mem_range.1 hj)]
theorem gF_some {d : Int} {fo : Bool} {f : Nat → UnitD} {n : Nat} {fr : Int} (h : ∃ j, j < n ∧ (f j).pr = true) : anyPr (gF d fo f n fr) = true := by
  obtain ⟨j, hj, h⟩ := h
  unfold anyPr gF
  dsimp only
  rw [List.any_eq_true]
  exact ⟨f j, List.mem_map.2 ⟨j, List.mem_range.2 hj, rfl⟩, h⟩

/-- A press of towers that are shut comes to stand, and no tower is pressed. -/
theorem to_stop {p : PressD} {d : Int} {fo : Bool} {f : Nat → UnitD} {n : Nat} {fr : Int} (hn : 0 < n ∧ n ≤ 3) (hd : d = 0 ∨ d = 1 ∨ d = 2) (h0 : d = 0 → ∀ j, j < n → (f j).pr = false) (h1 : d ≠ 0 → fo = false ∧ ∀ j, j < n → (f j).op = false) :
    ∃ ac fr', Run p (gF d fo f n fr) ac (gF 0 fo (fun j => offP (f j)) n fr') ∧ ac.length ≤ 5 := by
  have hoff : ∀ j, j < n → (f j).pr = false → offP (f j) = f j := fun j _ h => by
    unfold offP; generalize f j = u at *; obtain ⟨a, b, c, d, e⟩ := u; dsimp only at h; rw [h]
  by_cases hz : d = 0
  · subst hz
    refine ⟨[], fr, ?_, by simp⟩
    rw [gF_congr (g := f) (fun j hj => hoff j hj (h0 rfl j hj))]
    exact rfl
  · obtain ⟨hf, hop⟩ := h1 hz
    subst hf
    have hph : ∃ ac, Run p (gF 1 false f n 0) ac (gF 1 false (fun j => offP (f j)) n 0) ∧ ac.length ≤ 1 * n := phase_all fun j hj => by
      cases hp : (f j).pr
      · exact ⟨[], (hoff j hj hp).symm, by simp⟩
      · refine ⟨[6], ⟨by simp [locOk, hp], ?_⟩, by simp⟩
        show unitD 6 (f j) = offP (f j)
        simp [unitD, offP]
    have hph' : ∃ ac, Run p (gF 1 false f n fr) ac (gF 1 false (fun j => offP (f j)) n fr) ∧ ac.length ≤ 1 * n := phase_all fun j hj => by
      cases hp : (f j).pr
      · exact ⟨[], (hoff j hj hp).symm, by simp⟩
      · refine ⟨[6], ⟨by simp [locOk, hp], ?_⟩, by simp⟩
        show unitD 6 (f j) = offP (f j)
        simp [unitD, offP]
    have hst : ∀ fr, Run p (gF 1 false (fun j => offP (f j)) n fr) [(9, 0)] (gF 0 false (fun j => offP (f j)) n 0) := fun fr => by
      have := big_act (p := p) (s := gF 1 false (fun j => offP (f j)) n fr) (k := 9) (by omega) (by rw [gF_len]; exact hn.1) (by
        have hnp : anyPr (gF 1 false (fun j => offP (f j)) n fr) = false := gF_none fun j _ => rfl
        unfold allowD
        rw [hnp]
        simp [gF])
      exact this
    rcases hd with rfl | rfl | rfl
    · exact absurd rfl hz
    · obtain ⟨ac, r1, l1⟩ := hph'
      exact ⟨ac ++ [(9, 0)], 0, r1.append (hst fr), by rw [List.length_append, List.length_singleton]; omega⟩
    · obtain ⟨ac, r1, l1⟩ := hph
      have hcr : Run p (gF 2 false f n fr) [(7, 0)] (gF 1 false f n 0) := by
        have := big_act (p := p) (s := gF 2 false f n fr) (k := 7) (by omega) (by rw [gF_len]; exact hn.1) (by
          have hno : opened (gF 2 false f n fr) = false := gF_opened hop
          unfold allowD
          rw [hno]
          simp [gF])
        exact this
      refine ⟨[(7, 0)] ++ (ac ++ [(9, 0)]), 0, hcr.append (r1.append (hst 0)), ?_⟩
      rw [List.length_append, List.length_append, List.length_singleton, List.length_singleton]; omega

/-- The towers that are pressed at last. -/
def cutU (A : Bool) (u : UnitD) : UnitD := { u with op := false, th := if A && !u.cl then false else u.th }
def onU (A : Bool) (u : UnitD) : UnitD := if A then ⟨u.op, true, true, true, if u.cl then u.ink else 0⟩ else u
/-- From standing to any goal. -/
theorem from_stop {p : PressD} {fo : Bool} {f : Nat → UnitD} {n : Nat} {fr : Int} {A : Nat → Bool} {d : Int} (hn : 0 < n ∧ n ≤ 3) (hp : ∀ j, j < n → (f j).pr = false) (hA : ∀ j, j < n → A j = true → (f j).cl = true ∨ p.jam.getD j false = false) (hd : d = 1 ∨ d = 2) (h2 : d = 2 → ∃ j, j < n ∧ A j = true) :
    ∃ ac fr', Run p (gF 0 fo f n fr) ac (gF d false (fun j => onU (A j) (cutU (A j) (f j))) n fr') ∧ ac.length ≤ 21 := by
  have hcut : ∃ ac, Run p (gF 0 fo f n fr) ac (gF 0 fo (fun j => cutU (A j) (f j)) n fr) ∧ ac.length ≤ 3 * n := phase_all fun j hj => by
    have hpj := hp j hj
    generalize f j = u at *
    generalize A j = a
    obtain ⟨op, th, cl, pr, ink⟩ := u
    dsimp only at hpj
    subst hpj
    cases op <;> cases th <;> cases cl <;> cases a
    all_goals first
      | exact ⟨[], rfl, by simp⟩
      | exact ⟨[2], ⟨rfl, rfl⟩, by simp⟩
      | exact ⟨[12, 2], ⟨rfl, rfl, rfl⟩, by simp⟩
      | exact ⟨[1, 12, 2], ⟨rfl, rfl, rfl, rfl⟩, by simp⟩
  have hlock : ∃ ac, Run p (gF 0 fo (fun j => cutU (A j) (f j)) n fr) ac (gF 0 false (fun j => cutU (A j) (f j)) n fr) ∧ ac.length ≤ 1 := by
    cases fo
    · exact ⟨[], rfl, by simp⟩
    · refine ⟨[(11, 0)], ?_, by simp⟩
      exact big_act (p := p) (s := gF 0 true (fun j => cutU (A j) (f j)) n fr) (k := 11) (by omega) (by rw [gF_len]; exact hn.1) rfl
  have hcr : Run p (gF 0 false (fun j => cutU (A j) (f j)) n fr) [(7, 0)] (gF 1 false (fun j => cutU (A j) (f j)) n 0) :=
    big_act (p := p) (s := gF 0 false (fun j => cutU (A j) (f j)) n fr) (k := 7) (by omega) (by rw [gF_len]; exact hn.1) (by
      have hno : opened (gF 0 false (fun j => cutU (A j) (f j)) n fr) = false := gF_opened fun j _ => rfl
      unfold allowD
      rw [hno]
      simp [gF])
  have hon : ∃ ac, Run p (gF 1 false (fun j => cutU (A j) (f j)) n 0) ac (gF 1 false (fun j => onU (A j) (cutU (A j) (f j))) n 0) ∧ ac.length ≤ 3 * n := phase_all fun j hj => by
    have hpj := hp j hj
    have hAj := hA j hj
    generalize f j = u at *
    generalize A j = a at *
    generalize p.jam.getD j false = jm at *
    obtain ⟨op, th, cl, pr, ink⟩ := u
    dsimp only at hpj hAj
    subst hpj
    cases a
    · exact ⟨[], rfl, by simp⟩
    · cases cl
      · have hjm : jm = false := by have := hAj rfl; simpa using this
        subst hjm
        exact ⟨[4, 3, 5], ⟨by cases th <;> rfl, by cases th <;> rfl, by cases th <;> rfl, by cases th <;> rfl⟩, by simp⟩
      · cases th
        · exact ⟨[3, 5], ⟨rfl, rfl, rfl⟩, by simp⟩
        · exact ⟨[5], ⟨rfl, rfl⟩, by simp⟩
  obtain ⟨a1, r1, l1⟩ := hcut
  obtain ⟨a2, r2, l2⟩ := hlock
  obtain ⟨a3, r3, l3⟩ := hon
  have r4 := r1.append (r2.append (hcr.append r3))
  have l4 : (a1 ++ (a2 ++ ([(7, 0)] ++ a3))).length ≤ 20 := by
    simp only [List.length_append, List.length_singleton]; omega
  rcases hd with rfl | rfl
  · exact ⟨_, 0, r4, by omega⟩
  · obtain ⟨j, hj, hAj⟩ := h2 rfl
    have hrun : Run p (gF 1 false (fun j => onU (A j) (cutU (A j) (f j))) n 0) [(8, 0)] (gF 2 false (fun j => onU (A j) (cutU (A j) (f j))) n 0) :=
      big_act (p := p) (s := gF 1 false (fun j => onU (A j) (cutU (A j) (f j))) n 0) (k := 8) (by omega) (by rw [gF_len]; exact hn.1) (by
        have hso : anyPr (gF 1 false (fun j => onU (A j) (cutU (A j) (f j))) n 0) = true := gF_some ⟨j, hj, by unfold onU; rw [if_pos hAj]⟩
        unfold allowD
        rw [hso]
        simp [gF])
    exact ⟨_, 0, r4.append hrun, by rw [List.length_append, List.length_singleton]; omega⟩
end Go.Proofs.Ytojobdffnnibaaa

/- What Find's programs, their beginnings, and the codes of all situations are, in plain words. -/
namespace Go.Proofs.Ytojobdffnnibaaa
set_option linter.unusedVariables false

/-- A tower that is pressed is clean. -/
def PrCl (s : StD) : Prop := ∀ u ∈ s.units, u.pr = true → u.cl = true
theorem act_ok' {p : PressD} {s : StD} {k x : Int} (h : actErr p s k x = 0) : allowD p s k x.toNat = true ∧ actD p s k x = doD s k x.toNat := by
  refine ⟨?_, by unfold actD; rw [if_pos h]⟩
  unfold actErr at h
  split at h
  · simp at h
  split at h
  · simp at h
  split at h
  · assumption
  · simp at h
theorem getD_mem' {us : List UnitD} {i : Nat} (h : i < us.length) : us.getD i default ∈ us := by
  rw [List.getD_eq_getElem?_getD, List.getElem?_eq_getElem h]; exact List.getElem_mem h
theorem act_prcl {p : PressD} {s : StD} {k x : Int} (h : PrCl s) (he : actErr p s k x = 0) : PrCl (actD p s k x) := by
  obtain ⟨ha, hd⟩ := act_ok' he
  obtain ⟨k1, k2, x1, x2⟩ := err_unit he
  rw [hd]
  unfold doD
  repeat' split
  all_goals (try exact h)
  intro u hu hp
  dsimp only at hu
  rcases mem_set' hu with rfl | hu
  · have h0 := h _ (getD_mem' x2)
    unfold allowD at ha
    generalize s.units.getD x.toNat default = v at *
    obtain ⟨op, th, cl, pr, ink⟩ := v
    have hk : k = 1 ∨ k = 2 ∨ k = 3 ∨ k = 4 ∨ k = 5 ∨ k = 6 ∨ k = 12 := by omega
    rcases hk with rfl | rfl | rfl | rfl | rfl | rfl | rfl
    all_goals simp [unitD] at hp ⊢
    all_goals (try exact h0 hp)
    simp at ha
    exact ha.1.2
  · exact h u hu hp
theorem brk_prcl (s : StD) (i : Nat) : PrCl (brD s i) := by
  intro u hu hp
  unfold brD at hu
  dsimp only at hu
  rcases mem_set' hu with rfl | hu
  · simp [torn, offP] at hp
  · obtain ⟨v, _, rfl⟩ := List.mem_map.1 hu
    simp [offP] at hp
/-- What is clean was clean, or could be washed. -/
theorem act_clean {p : PressD} {s : StD} {k x : Int} (he : actErr p s k x = 0) (j : Nat) (h : ((actD p s k x).units.getD j default).cl = true) : (s.units.getD j default).cl = true ∨ p.jam.getD j false = false := by
  obtain ⟨ha, hd⟩ := act_ok' he
  obtain ⟨k1, k2, x1, x2⟩ := err_unit he
  rw [hd] at h
  unfold doD at h
  repeat' split at h
  all_goals (try exact .inl h)
  dsimp only at h
  by_cases hj : j = x.toNat
  · subst hj
    rw [List.getD_eq_getElem?_getD, List.getElem?_set_self x2, Option.getD_some] at h
    unfold allowD at ha
    generalize s.units.getD x.toNat default = v at *
    obtain ⟨op, th, cl, pr, ink⟩ := v
    have hk : k = 1 ∨ k = 2 ∨ k = 3 ∨ k = 4 ∨ k = 5 ∨ k = 6 ∨ k = 12 := by omega
    rcases hk with rfl | rfl | rfl | rfl | rfl | rfl | rfl
    all_goals simp [unitD, -List.getD_eq_getElem?_getD] at h ha ⊢
    all_goals (try exact .inl h)
    exact .inr ha.2
  · rw [List.getD_eq_getElem?_getD, List.getElem?_set_ne (fun e => hj e.symm), ← List.getD_eq_getElem?_getD] at h
    exact .inl h
theorem run_keeps {p : PressD} : ∀ {ac : List (Int × Int)} {s t : StD}, Good p s → PrCl s → Run p s ac t → Good p t ∧ PrCl t ∧ t.units.length = s.units.length ∧ ∀ j, (t.units.getD j default).cl = true → (s.units.getD j default).cl = true ∨ p.jam.getD j false = false
  | [], s, t, g, c, h => by
    rw [← show s = t from h]
    exact ⟨g, c, rfl, fun j h => .inl h⟩
  | a :: ac, s, t, g, c, h => by
    obtain ⟨h1, h2⟩ := h
    have g1 : Good p (actD p s a.1 a.2) := by rw [(act_ok' h1).2]; exact act_good g h1
    obtain ⟨r1, r2, r3, r4⟩ := run_keeps g1 (act_prcl c h1) h2
    refine ⟨r1, r2, r3.trans (actD_units _ _ _ _), fun j hj => ?_⟩
    rcases r4 j hj with h | h
    · exact act_clean h1 j h
    · exact .inr h
theorem run_good {p : PressD} : ∀ {ac : List (Int × Int)} {s t : StD}, Good p s → Run p s ac t → Good p t
  | [], s, t, g, h => by rw [← show s = t from h]; exact g
  | a :: ac, s, t, g, h => run_good (by rw [(act_ok' h.1).2]; exact act_good g h.1) h.2

/-- A goal that can be reached is reached by 26 actions or fewer. -/
theorem reach_short {p : PressD} {s t : StD} {ac : List (Int × Int)} {gl : GoalD} (g : Good p s) (c : PrCl s) (hr : Run p s ac t) (hf : fulD gl t = true) :
    ∃ bc r, Run p s bc r ∧ fulD gl r = true ∧ bc.length ≤ 26 := by
  obtain ⟨gt, ct, hl, hcl⟩ := run_keeps g c hr
  have hsm := g.small
  obtain ⟨n, hn⟩ : ∃ n, s.units.length = n := ⟨_, rfl⟩
  rw [hn] at hl hsm
  obtain ⟨f, hfd⟩ : ∃ f : Nat → UnitD, f = fun j => s.units.getD j default := ⟨_, rfl⟩
  have hs : s = gF s.drive s.folder f n s.fresh := by
    have := gF_of s
    rw [hn, ← hfd] at this
    exact this
  have hfm : ∀ j, j < n → f j ∈ s.units := fun j hj => by rw [hfd]; exact getD_mem' (by omega)
  have hd := g.dr
  obtain ⟨a1, fr1, r1, l1⟩ := to_stop (p := p) (d := s.drive) (fo := s.folder) (f := f) (n := n) (fr := s.fresh) ⟨hsm.2, hsm.1⟩ (by omega) (fun h0 j hj => by
    cases hp : (f j).pr
    · rfl
    · exact absurd h0 (g.web _ (hfm j hj) hp).2) (fun h0 => ⟨(g.shut h0).1, fun j hj => (g.shut h0).2 _ (hfm j hj)⟩)
  rw [← hs] at r1
  have hfu := hf
  unfold fulD at hf
  simp only [Bool.and_eq_true, beq_iff_eq] at hf
  obtain ⟨f1, f2⟩ := hf
  have hdt := gt.dr
  have htm : ∀ j, j < n → t.units.getD j default ∈ t.units := fun j hj => getD_mem' (by omega)
  have hmap : t.units.map (·.pr) = (List.range n).map fun j => (t.units.getD j default).pr := by
    apply List.ext_getElem
    · simp [hl]
    · intro k h1 h2
      have : k < t.units.length := by simpa using h1
      simp [this]
  by_cases h0 : t.drive = 0
  · refine ⟨a1, _, r1, ?_, by omega⟩
    unfold fulD
    simp only [Bool.and_eq_true, beq_iff_eq]
    refine ⟨by rw [← f1, h0]; rfl, ?_⟩
    rw [← f2, hmap]
    unfold gF
    dsimp only
    rw [List.map_map]
    refine List.map_congr_left fun j hj => ?_
    have hjn := List.mem_range.1 hj
    cases hp : (t.units.getD j default).pr
    · rfl
    · exact absurd h0 (gt.web _ (htm j hjn) hp).2
  · obtain ⟨a2, fr2, r2, l2⟩ := from_stop (p := p) (fo := s.folder) (f := fun j => offP (f j)) (n := n) (fr := fr1) (A := fun j => (t.units.getD j default).pr) (d := t.drive) ⟨hsm.2, hsm.1⟩ (fun j _ => rfl) (fun j hj hA => by
        have h1 := ct _ (htm j hj) hA
        rw [hfd]
        exact hcl j h1) (by omega) (fun h2 => by
        obtain ⟨u, hu, hp⟩ := gt.some_ h2
        obtain ⟨j, hj, rfl⟩ := List.mem_iff_getElem.1 hu
        exact ⟨j, by omega, by simpa [hj] using hp⟩)
    refine ⟨a1 ++ a2, _, r1.append r2, ?_, by rw [List.length_append]; omega⟩
    unfold fulD
    simp only [Bool.and_eq_true, beq_iff_eq]
    refine ⟨by rw [← f1]; rfl, ?_⟩
    rw [← f2, hmap]
    unfold gF
    dsimp only
    rw [List.map_map]
    refine List.map_congr_left fun j hj => ?_
    dsimp only [Function.comp]
    unfold onU
    cases hp : (t.units.getD j default).pr <;> rfl
theorem run_take {p : PressD} : ∀ {ac : List (Int × Int)} {s t : StD} (n : Nat), Run p s ac t → ∃ r, Run p s (ac.take n) r
  | _, s, t, 0, h => ⟨s, by rw [List.take_zero]; exact rfl⟩
  | [], s, t, n + 1, h => ⟨s, rfl⟩
  | a :: ac, s, t, n + 1, h => by
    obtain ⟨r, hr⟩ := run_take n h.2
    exact ⟨r, h.1, hr⟩
theorem run_i64 {p : PressD} : ∀ {ac : List (Int × Int)} {s t : StD}, Run p s ac t → ∀ a ∈ ac, I64 a.1
  | b :: ac, s, t, h, a, hm => by
    rcases List.mem_cons.1 hm with rfl | hm
    · obtain ⟨h1, h2, _⟩ := err_unit h.1
      unfold I64; omega
    · exact run_i64 h.2 a hm
/-- What Verify says of a program that Find returned, and of its beginnings. -/
theorem find_facts {p : PressD} {s : StD} {gl : GoalD} (g : Good p s) (c : PrCl s) (ha : aimedD s gl = true) :
    (fiErr p s gl = 4 ∧ ∀ ac t, Run p s ac t → fulD gl t = false) ∨
    (fiErr p s gl = 0 ∧ (∃ ac t, Run p s ac t ∧ fulD gl t = true) ∧ (findL p s gl).length ≤ 26 ∧ (∀ a ∈ findL p s gl, I64 a.1) ∧ vfErr p s gl (findL p s gl) = 0 ∧ ∀ n, n < (findL p s gl).length → vfErr p s gl ((findL p s gl).take n) = 7) := by
  have hs := (good_iff p s).2 g
  have hsm := g.small
  have hk := seek_all (p := p) gl g.dr (by omega)
  have hge : goErr p s gl = 0 := by unfold goErr; rw [if_neg (by rw [hs]; simp), if_pos ha]
  by_cases hpos : (seekD p s gl).2 < 0
  · exact .inl ⟨by unfold fiErr; rw [if_neg (by rw [hge]; simp), if_pos hpos], hk.none_ hpos⟩
  · obtain ⟨t, hrun, hful, hmin⟩ := hk.some_ (by omega)
    have hfe : fiErr p s gl = 0 := by unfold fiErr; rw [if_neg (by rw [hge]; simp), if_neg hpos]
    have hfl : findL p s gl = findD p s gl := by unfold findL; rw [if_pos hfe]
    obtain ⟨bc, r, hb, hfb, hlb⟩ := reach_short g c hrun hful
    have hlen := hmin bc r hb hfb
    refine .inr ⟨hfe, ⟨_, t, hrun, hful⟩, by rw [hfl]; omega, by rw [hfl]; exact fun a h => run_i64 hrun a h, ?_, fun n hn => ?_⟩
    · rw [hfl]
      unfold vfErr
      rw [if_neg (by rw [hge]; simp), if_neg (by omega), hrun.prog 0, if_pos ⟨rfl, hful⟩]
    · rw [hfl] at hn ⊢
      obtain ⟨r2, hr2⟩ := run_take n hrun
      have hlt : ((findD p s gl).take n).length = n := by rw [List.length_take]; omega
      unfold vfErr
      rw [if_neg (by rw [hge]; simp), if_neg (by rw [hlt]; omega), hr2.prog 0, if_neg]
      rintro ⟨_, hf2⟩
      have := hmin _ r2 hr2 hf2
      omega
end Go.Proofs.Ytojobdffnnibaaa
