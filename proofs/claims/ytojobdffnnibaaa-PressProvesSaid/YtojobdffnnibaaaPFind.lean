/- press.Find. -/
import Derived.Test.YtojobdffnnibaaaPSearch
import Derived.Test.YtojobdffnnibaaaPFul
import Derived.Test.YtojobdffnnibaaaPRev
namespace Go.Proofs.Ytojobdffnnibaaa
open Go.RowKit
set_option linter.unusedVariables false
set_option linter.unusedSimpArgs false

theorem tActs : SliceT Try.prog 68 63 (.agg #[.int .i64 0, .int .i64 0]) 2 16 := ⟨by kernel_rfl, by kernel_rfl, rfl, by decide, by decide⟩
/-- The program that is found (none: empty). -/
def findL (p : PressD) (s : StD) (g : GoalD) : List (Int × Int) := if fiErr p s g = 0 then findD p s g else []
/-- What Find does. -/
def FindPost (w : World) (p : PressD) (s : StD) (g : GoalD) (e : Ending) (w' : World) : Prop :=
  ∃ va, e = .returned (.tuple #[va, .int .i64 (fiErr p s g)]) ∧ w'.ownsRow w.heap.size 63 2 va (findL p s g).length (acL (findL p s g)) ∧ Ext w w'
theorem FindPost.no {w w' : World} {p : PressD} {s : StD} {g : GoalD} {e1 : Int} (h : fiErr p s g = e1) (h0 : e1 ≠ 0) (k : Ext w w') : FindPost w p s g (.returned (.tuple #[.slice none 0 0, .int .i64 e1])) w' := by
  have hl : findL p s g = [] := by unfold findL; rw [if_neg (by rw [h]; exact h0)]
  exact ⟨_, by rw [h], by rw [hl]; exact World.ownsRow_nil _ _ _ _, k⟩

set_option maxRecDepth 100000 in
set_option maxHeartbeats 4000000 in
theorem find_any (p : PressD) (s : StD) (g : GoalD) (vj vu vg : Value) (w : World) (hj : Truths w vj p.jam) (hu : UnIn w vu s.units) (hg : Truths w vg g.pressed) (hl : s.units.length ≤ 1000000) :
    Calls Try.prog 25 #[pV vj p, sV vu s, gV vg g] w (FindPost w p s g) := by
  have hst := fun w1 (k : Ext w w1) => start_any p s vj vu w1 (Sl.ext hj k) (hu.ext k) hl
  obtain ⟨a, c, rfl, Hu⟩ := hu.form
  have hj' := hj
  have hg' := hg
  obtain ⟨_, aj, cj, hvj, _⟩ := hj'
  rw [List.length_map] at hvj
  subst hvj
  obtain ⟨_, ag, cg, hvg, _⟩ := hg'
  rw [List.length_map] at hvg
  subst hvg
  have haim := fun W mb pb ub c B vj0 (k : Ext w W) (h : MOw B W mb pb ub c p s vj0) => aimed_any W h hl (Sl.ext hg k)
  have hfind1 := fun W mb pb ub c B xb t vj0 (k : Ext w W) (h : MOw B W mb pb ub c p t vj0) (hl : t.units.length ≤ 1000000) (hx : Blk W xb #[.int .i64 g.drive, .slice ag g.pressed.length cg] 69) => find1_any W h hl (Sl.ext hg k) hx
  have HAI := Lib.hid haim
  have HF1 := Lib.hid hfind1
  clear haim hfind1
  clear hu hj hg Hu
  unfold pV sV gV at *
  obtain ⟨e1, he1⟩ : ∃ e, stErr p s = e := ⟨_, rfl⟩
  by_cases h1 : e1 = 0
  · subst h1
    have hs := fun w1 (k : Ext w w1) => (hst w1 k).mono fun e w' (h : StartPost w1 p s _ e w') => (h.resolve_left fun h => h.1 he1).2
    obtain ⟨hpe, hsh, hsf⟩ := stErr_ok he1
    have huj := shaped_len hsh
    have hul : s.units.length ≤ 3 := by rw [huj]; exact (pErr_len hpe).2
    have hup : 0 < s.units.length := by rw [huj]; exact (pErr_len hpe).1
    obtain ⟨ba, hba⟩ : ∃ b, aimedD s g = b := ⟨_, rfl⟩
    rw [hba] at HAI
    have hgo : goErr p s g = if ba then 0 else 1 := by unfold goErr; rw [if_neg (by rw [he1]; simp), hba]
    have HS := Lib.hid hs
    have HUL := Lib.hid hul
    have HUJ := Lib.hid huj
    have HUP := Lib.hid hup
    have HGO := Lib.hid hgo
    clear hs hul huj hup hgo
    clear hst he1 hpe hsh hsf hba
    go_enter Try.func25, Try.ntmps25
    go_upto_region 1 with (first
      | (with_reducible refine wpList_boxA (t := 32) (cs := #[.slice aj p.jam.length cj, .int .i64 p.warm, .int .i64 p.tail, .int .i64 p.dirt]) rfl rfl rfl ?_
         rintro xb w1 hx1 hx2 hx3
         have PB := Lib.hid hx1
         have X1 := Lib.hid hx2
         clear hx1 hx2
         clear hx3)
      | (with_reducible refine wpList_boxA (t := 36) (cs := #[.int .i64 s.drive, .bool s.folder, .slice a s.units.length c, .int .i64 s.fresh]) rfl rfl rfl ?_
         rintro sb w2 hy1 hy2 hy3
         have pb2 := PB.out.ext hy2
         have x2 := X1.out.tr hy2
         clear PB X1
         have SB := Lib.hid hy1
         have PB := Lib.hid pb2
         have X1 := Lib.hid x2
         clear hy1 pb2 x2
         clear hy3 hy2)
      | (with_reducible refine wpList_boxA (t := 69) (cs := #[.int .i64 g.drive, .slice ag g.pressed.length cg]) rfl rfl rfl ?_
         rintro gb w2 hy1 hy2 hy3
         have c2 := (PB.out.ext hy2).cell
         have c3 := (SB.out.ext hy2).cell
         have x2 := X1.out.tr hy2
         clear PB X1 SB
         have GB := Lib.hid hy1
         have X1 := Lib.hid x2
         clear hy1 x2
         clear hy3 hy2))
    go_upto_region 3 with (
        have hgd := HS.out
        go_at_call 43
        refine (hgd _ X1.out).mono ?_
        rintro e wB ⟨mb, pb, ub, c4, rfl, hmo, hx3⟩
        have gb2 := GB.out.ext hx3
        have lx := X1.out.size
        have x2 := X1.out.tr hx3
        have hmo2 := hmo
        have lB := hx3.size
        clear c2 c3 GB X1 hgd hx3 HS hmo
        have kgb := gb2.cell
        have GB := Lib.hid gb2
        have X1 := Lib.hid x2
        have HM := Lib.hid hmo2
        have LX := Lib.hid lx
        have LB := Lib.hid lB
        clear gb2 x2 hmo2 lx lB)
    cases ba
    · have hfe : fiErr p s g = 1 := by unfold fiErr; rw [HGO.out]; rfl
      have HFE := Lib.hid hfe
      clear hfe
      go_wp2_with (
         have hgd := HAI.out
         go_at_call 50
         refine (hgd _ _ _ _ _ _ _ X1.out HM.out).mono ?_
         rintro e w4 ⟨rfl, hx4⟩
         have gb2 := GB.out.ext hx4
         have hm2 := HM.out.ext hx4
         have x2 := X1.out.tr hx4
         clear hgd GB X1 HM HAI kgb
         have GB := Lib.hid gb2
         have X1 := Lib.hid x2
         have HM := Lib.hid hm2
         clear gb2 x2 hm2)
      go_ret2
      exact FindPost.no HFE.out (by decide) X1.out
    · obtain ⟨r, hr⟩ : ∃ r, seekD p s g = r := ⟨_, rfl⟩
      obtain ⟨l, at0⟩ := r
      have hok := seek_ok p s g
      rw [hr] at hok
      obtain ⟨hback, hap, hfo⟩ := hok
      dsimp only at hback hap hfo
      have hfe : fiErr p s g = if at0 < 0 then 4 else 0 := by unfold fiErr; rw [HGO.out, hr]; rfl
      have hfd : findD p s g = (backD l 40000 at0).reverse := by unfold findD; rw [hr]
      have hll := hap.len
      have hl1 : at0 ≤ 32768 := by rcases hfo with h | h <;> omega
      have hse : ∀ W mb pb ub c B vj0 xb, Ext w W → MOw B W mb pb ub c p s vj0 → Blk W xb #[.int .i64 g.drive, .slice ag g.pressed.length cg] 69 →
          Calls Try.prog 51 #[.pointer (some ⟨mb, 0, none⟩), .func (.func 52) #[] #[.pointer (some ⟨xb, 0, none⟩)]] W fun e w' =>
            ∃ va, e = .returned (.tuple #[va, .int .i64 at0]) ∧ SrRow B W.heap.size pb p vj0 l va w' ∧ Ext W w' := fun W mb pb ub c B vj0 xb k h hx =>
        (search_any W h HUL.out HUJ.out HUP.out 52 #[.pointer (some ⟨xb, 0, none⟩)] (fulD g) (fun a w => by kernel_rfl)
          (fun W' m u c' t k' hm ht => HF1.out W' m pb u c' B xb t vj0 (k.tr k') hm (by rw [ht]; exact Nat.le_trans HUL.out (by decide)) (hx.ext k'))).mono fun e w' ⟨va, he, hrow, hx'⟩ => by
            have h1 : searchD p (fulD g) 40000 0 [⟨s, 0, 0, -1⟩] = (l, at0) := hr
            rw [h1] at he hrow
            exact ⟨va, he, hrow, hx'⟩
      clear hr hap
      have HBK := Lib.hid hback
      have HFE := Lib.hid hfe
      have HFD := Lib.hid hfd
      have HLL := Lib.hid hll
      have HSE := Lib.hid hse
      have HFO := Lib.hid hfo
      clear hback hfe hfd hll hse hfo
      go_upto_region 7 with (first
        | (have hgd := HAI.out
           go_at_call 50
           refine (hgd _ _ _ _ _ _ _ X1.out HM.out).mono ?_
           rintro e w4 ⟨rfl, hx4⟩
           have gb2 := GB.out.ext hx4
           have hm2 := HM.out.ext hx4
           have x2 := X1.out.tr hx4
           clear hgd GB X1 HM HAI kgb
           have GB := Lib.hid gb2
           have X1 := Lib.hid x2
           have HM := Lib.hid hm2
           clear gb2 x2 hm2)
        | (have hgd := HSE.out
           go_at_call 51
           refine (hgd _ _ _ _ _ _ _ _ X1.out HM.out GB.out).mono ?_
           rintro e w5 ⟨va, rfl, hrow, hx5⟩
           obtain ⟨f, fu, fc, hown, _⟩ := hrow
           obtain ⟨a5, c5, hva⟩ := row_form hown
           subst hva
           have x2 := X1.out.tr hx5
           clear hgd GB X1 HM HSE hx5
           have X1 := Lib.hid x2
           have HO := Lib.hid hown
           clear x2 hown))
      by_cases h2 : at0 < 0
      · have hfe2 : fiErr p s g = 4 := by rw [HFE.out, if_pos h2]
        have HFE2 := Lib.hid hfe2
        clear hfe2
        go_wp2
        go_ret2
        exact FindPost.no HFE2.out (by decide) X1.out
      · have hfe2 : fiErr p s g = 0 := by rw [HFE.out, if_neg h2]
        obtain ⟨i0, rfl⟩ : ∃ i : Nat, at0 = i := ⟨at0.toNat, by omega⟩
        have hi0 : i0 < l.length := by rcases HFO.out with h | h <;> omega
        have hb0 := backD_len HBK.out 40000 (i0:Int) (by omega)
        obtain ⟨bk, hbk⟩ : ∃ b, backD l 40000 (i0:Int) = b := ⟨_, rfl⟩
        have hfd2 := HFD.out
        rw [hbk] at hfd2 hb0
        have hbl : bk.length ≤ 32768 := by have := HLL.out; omega
        clear HFD HFE h2
        have HFE2 := Lib.hid hfe2
        have HFD2 := Lib.hid hfd2
        have HBL := Lib.hid hbl
        have HB0 := Lib.hid hbk
        clear hfe2 hfd2 hbl hbk
        go_upto_region 10 with (fail)

        go_loopw [11, 12] (fun t11 t12 wr => ∃ (i : Nat) (acc : List (Int × Int)), t11 = .int .i64 i ∧ i < l.length ∧ Hid (wr.ownsRow w5.heap.size 63 2 t12 acc.length (acL acc)) ∧ Hid (acc ++ backD l 40000 i = bk) ∧ Hid (Ext w5 wr)) (fun t11 _ _ => (intOf t11).toNat)
        case atStart => exact ⟨i0, [], rfl, hi0, World.ownsRow_nil _ _ _ _, HB0.out, Below.refl _ _⟩
        case round =>
          obtain ⟨i, acc, rfl, hil, HA, HAC, HX⟩ := hrel
          obtain ⟨a6, c6, rfl⟩ := row_form HA.out
          obtain ⟨g5, c7, hv, hcell⟩ := owns_pos HO.out (by omega)
          cases hv
          have hst1 := stL_get f l i
          have d1 := HX.out.cellSome (hcell (i * 4 + 1) (.int .i64 l[i].kind) (by rw [hst1 1 hil (by omega)]; rfl))
          have d2 := HX.out.cellSome (hcell (i * 4 + 2) (.int .i64 l[i].unit) (by rw [hst1 2 hil (by omega)]; rfl))
          have d30 := hcell (i * 4 + 3) (.int .i64 l[i].from_) (by rw [hst1 3 hil (by omega)]; rfl)
          have d3 := HX.out.cellSome d30
          have hbi := HBK.out i hil
          have hstop := backD_stop (l := l) (f := 39999) (i := (i:Int)) (by simpa using hil)
          have hstep := backD_step (l := l) (f := 39999) (i := (i:Int)) (by simpa using hil)
          have hfuel := backD_fuel HBK.out 39999 40000
          simp only [Int.toNat_natCast] at hstop hstep
          obtain ⟨⟨ta, tk, tu, tf⟩, ht⟩ : ∃ t, l[i] = t := ⟨_, rfl⟩
          simp only [ht] at d1 d2 d3 d30 hbi hstop hstep
          have i1 : (0:Int) ≤ (i:Int) := by omega
          have i2 : (i:Int) < (l.length:Int) := by omega
          have hacl : acc.length ≤ 32768 := by
            have h1 := congrArg List.length HAC.out
            rw [List.length_append] at h1
            have := HBL.out
            omega
          clear hst1 hcell ht
          have STOP := Lib.hid hstop
          have STEP := Lib.hid hstep
          have FUEL := Lib.hid hfuel
          have ACL := Lib.hid hacl
          have D30 := Lib.hid d30
          clear hstop hstep hfuel hacl d30
          by_cases hf : tf < 0
          · have i3 : decide ((0:Int) ≤ tf) = false := decide_eq_false (by omega)
            have hend := HAC.out
            rw [STOP.out hf, List.append_nil] at hend
            have hrev := fun W (h : Ext wr W) => reverse_any (B := w5.heap.size) acc (.slice a6 acc.length c6) W (owns_ext HA.out h) (Nat.le_trans ACL.out (by decide))
            have HEND := Lib.hid hend
            have HREV := Lib.hid hrev
            clear hend hrev
            go_wp2_with (
              go_at_call 54
              refine (HREV.out _ (Below.refl _ _)).mono ?_
              rintro e w7 ⟨rfl, hown7, ho7⟩
              have x7 := (X1.out.tr HX.out).then_only ho7 (fun b hb => by have h5 := (HA.out.lt b hb).1; have h6 := X1.out.size; omega)
              have OW7 := Lib.hid hown7
              have X7 := Lib.hid x7
              clear hown7 x7)
            go_ret2
            have hfl : findL p s g = acc.reverse := by unfold findL; rw [if_pos HFE2.out, HFD2.out, HEND.out]
            exact ⟨_, by rw [HFE2.out]; rfl, by rw [hfl, List.length_reverse]; exact owns_weak OW7.out X1.out.size, X7.out⟩
          · have i3 : (0:Int) ≤ tf := by omega
            obtain ⟨tn, rfl⟩ : ∃ n : Nat, tf = n := ⟨tf.toNat, by omega⟩
            have htn : tn < i := by omega
            have hnext : (acc ++ [(tk, tu)]) ++ backD l 40000 (tn:Int) = bk := by
              rw [← HAC.out, STEP.out hf, List.append_assoc, FUEL.out _ (by omega) (by simp; have := HLL.out; omega) (by simp; have := HLL.out; omega)]; rfl
            have HNX := Lib.hid hnext
            clear hnext
            go_wp2_with (
              at_builtin
              refine wpList_app (n := acc.length) (m := 1) tActs rfl rfl (v := .slice a6 acc.length c6) rfl (owns_ext HA.out (ext_lit _ _ _)) rfl (Src.lit _ [.int .i64 tk, .int .i64 tu] 1 2 rfl 63 1) (by simp [Value.oneCell']) (by have := ACL.out; omega) (Nat.le_trans HX.out.size (by simp)) ?_
              rintro v' w10 t1 t2 t3
              have xt := (HX.out.tr (ext_lit _ _ _)).then_only (only_grown t2) (fun b hb => (HA.out.lt b hb).1)
              have e3 := xt.cellSome D30.out
              clear d1 d2 d3
              have T1 := Lib.hid t1
              have XT := Lib.hid xt
              clear t1 xt
              clear t2 t3)
            go_roundw
            case rel => exact ⟨tn, acc ++ [(tk, tu)], rfl, by omega, by rw [acL_snoc, List.length_append]; exact T1, HNX, XT⟩
            case measure => first | (simp [intOf]; done) | (simp [intOf]; omega)
  · have hpe : fiErr p s g = e1 := by unfold fiErr goErr; rw [he1, if_pos h1, if_pos h1]
    have hs := fun w1 (k : Ext w w1) => (hst w1 k).mono fun e w' (h : StartPost w1 p s _ e w') => (h.resolve_right fun h => h1 (he1 ▸ h.1)).2
    rw [he1] at hs
    have f1 : (e1 != 0) = true := by simp [h1]
    have f2 : (e1 == 0) = false := by simp [h1]
    have HPE := Lib.hid hpe
    have H1 := Lib.hid h1
    have HS := Lib.hid hs
    clear hpe h1 hs
    clear he1 hst
    go_enter Try.func25, Try.ntmps25
    go_upto_region 1 with (first
      | (with_reducible refine wpList_boxA (t := 32) (cs := #[.slice aj p.jam.length cj, .int .i64 p.warm, .int .i64 p.tail, .int .i64 p.dirt]) rfl rfl rfl ?_
         rintro xb w1 hx1 hx2 hx3
         have PB := Lib.hid hx1
         have X1 := Lib.hid hx2
         clear hx1 hx2
         clear hx3)
      | (with_reducible refine wpList_boxA (t := 36) (cs := #[.int .i64 s.drive, .bool s.folder, .slice a s.units.length c, .int .i64 s.fresh]) rfl rfl rfl ?_
         rintro sb w2 hy1 hy2 hy3
         have pb2 := PB.out.ext hy2
         have x2 := X1.out.tr hy2
         clear PB X1
         have SB := Lib.hid hy1
         have PB := Lib.hid pb2
         have X1 := Lib.hid x2
         clear hy1 pb2 x2
         clear hy3 hy2)
      | (with_reducible refine wpList_boxA (t := 69) (cs := #[.int .i64 g.drive, .slice ag g.pressed.length cg]) rfl rfl rfl ?_
         rintro gb w2 hy1 hy2 hy3
         have c2 := (PB.out.ext hy2).cell
         have c3 := (SB.out.ext hy2).cell
         have x2 := X1.out.tr hy2
         clear PB X1 SB
         have GB := Lib.hid hy1
         have X1 := Lib.hid x2
         clear hy1 x2
         clear hy3 hy2))
    go_wp2_with (
        have hgd := HS.out
        go_at_call 43
        refine (hgd _ X1.out).mono ?_
        rintro e w3 ⟨rfl, hx3⟩
        have x2 := X1.out.tr hx3
        clear c2 c3 X1 hgd hx3 HS
        have X1 := Lib.hid x2
        clear x2)
    go_ret2
    exact FindPost.no HPE.out H1.out X1.out
end Go.Proofs.Ytojobdffnnibaaa
