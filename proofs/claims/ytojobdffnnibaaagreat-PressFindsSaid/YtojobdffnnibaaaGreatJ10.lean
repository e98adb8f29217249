/- press.Find. PressActs: the small functions: the reference's Begin and Safe, the lists of actions. PressActs: the reference's allowed. PressActs: the code of a situation. PressActs: the press's Code. The chapter's example, reckoned. awake: the chapter's example comes out as it should. -/
import Derived.Test.YtojobdffnnibaaaGreatPSearch
import Derived.Test.YtojobdffnnibaaaGreatJ6
import Derived.Test.YtojobdffnnibaaaGreatJ9
import Derived.Test.YtojobdffnnibaaaGreatJ8
import Derived.Test.YtojobdffnnibaaaGreatJ7
import Derived.Test.YtojobdffnnibaaaGreatPProg
import Derived.Test.YtojobdffnnibaaaGreatJ1
import Derived.Test.YtojobdffnnibaaaGreatPSit
import Derived.Test.YtojobdffnnibaaaGreatPBreak
import Derived.Test.YtojobdffnnibaaaGreatPPrint
namespace Go.Proofs.YtojobdffnnibaaaGreat
open Go.RowKit
set_option linter.unusedVariables false
set_option linter.unusedSimpArgs false

theorem tActs : SliceT Tryz.prog 42 72 (.agg #[.int .i64 0, .int .i64 0]) 2 16 := ⟨by kernel_rfl, by kernel_rfl, rfl, by decide, by decide⟩
/-- The program that is found (none: empty). -/
def findL (p : PressD) (s : StD) (g : GoalD) : List (Int × Int) := if fiErr p s g = 0 then findD p s g else []
/-- What Find does. -/
def FindPost (w : World) (p : PressD) (s : StD) (g : GoalD) (e : Ending) (w' : World) : Prop :=
  ∃ va, e = .returned (.tuple #[va, .int .i64 (fiErr p s g)]) ∧ w'.ownsRow w.heap.size 72 2 va (findL p s g).length (acL (findL p s g)) ∧ Ext w w'
theorem FindPost.no {w w' : World} {p : PressD} {s : StD} {g : GoalD} {e1 : Int} (h : fiErr p s g = e1) (h0 : e1 ≠ 0) (k : Ext w w') : FindPost w p s g (.returned (.tuple #[.slice none 0 0, .int .i64 e1])) w' := by
  have hl : findL p s g = [] := by unfold findL; rw [if_neg (by rw [h]; exact h0)]
  exact ⟨_, by rw [h], by rw [hl]; exact World.ownsRow_nil _ _ _ _, k⟩

set_option maxRecDepth 100000 in
set_option maxHeartbeats 4000000 in
theorem find_any (p : PressD) (s : StD) (g : GoalD) (vj vu vg : Value) (w : World) (hj : Truths w vj p.jam) (hu : UnIn w vu s.units) (hg : Truths w vg g.pressed) (hl : s.units.length ≤ 1000000) :
    Calls Tryz.prog 10 #[pV vj p, sV vu s, gV vg g] w (FindPost w p s g) := by
  have hst := fun w1 (k : Ext w w1) => start_any p s vj vu w1 (Sl.ext hj k) (hu.ext k) hl
  obtain ⟨a, c, rfl, Hu⟩ := hu.form
  have hj' := hj
  have hg' := hg
  obtain ⟨_, aj, cj, hvj, _⟩ := hj'
  rw [List.length_map] at hvj
  subst hvj
  obtain ⟨_, ag, cg, hvg, _⟩ := hg'
  rw [List.length_map] at hvg
  subst hvg
  have haim := fun W mb pb ub c B vj0 (k : Ext w W) (h : MOw B W mb pb ub c p s vj0) => aimed_any W h hl (Sl.ext hg k)
  have hfind1 := fun W mb pb ub c B xb t vj0 (k : Ext w W) (h : MOw B W mb pb ub c p t vj0) (hl : t.units.length ≤ 1000000) (hx : Blk W xb #[.int .i64 g.drive, .slice ag g.pressed.length cg] 40) => find1_any W h hl (Sl.ext hg k) hx
  have HAI := Lib.hid haim
  have HF1 := Lib.hid hfind1
  clear haim hfind1
  clear hu hj hg Hu
  unfold pV sV gV at *
  obtain ⟨e1, he1⟩ : ∃ e, stErr p s = e := ⟨_, rfl⟩
  by_cases h1 : e1 = 0
  · subst h1
    have hs := fun w1 (k : Ext w w1) => (hst w1 k).mono fun e w' (h : StartPost w1 p s _ e w') => (h.resolve_left fun h => h.1 he1).2
    obtain ⟨hpe, hsh, hsf⟩ := stErr_ok he1
    have huj := shaped_len hsh
    have hul : s.units.length ≤ 3 := by rw [huj]; exact (pErr_len hpe).2
    have hup : 0 < s.units.length := by rw [huj]; exact (pErr_len hpe).1
    obtain ⟨ba, hba⟩ : ∃ b, aimedD s g = b := ⟨_, rfl⟩
    rw [hba] at HAI
    have hgo : goErr p s g = if ba then 0 else 1 := by unfold goErr; rw [if_neg (by rw [he1]; simp), hba]
    have HS := Lib.hid hs
    have HUL := Lib.hid hul
    have HUJ := Lib.hid huj
    have HUP := Lib.hid hup
    have HGO := Lib.hid hgo
    clear hs hul huj hup hgo
    clear hst he1 hpe hsh hsf hba
    go_enter Tryz.func10, Tryz.ntmps10
    go_upto_region 1 with (first
      | (with_reducible refine wpList_boxA (t := 34) (cs := #[.slice aj p.jam.length cj, .int .i64 p.warm, .int .i64 p.tail, .int .i64 p.dirt]) rfl rfl rfl ?_
         rintro xb w1 hx1 hx2 hx3
         have PB := Lib.hid hx1
         have X1 := Lib.hid hx2
         clear hx1 hx2
         clear hx3)
      | (with_reducible refine wpList_boxA (t := 38) (cs := #[.int .i64 s.drive, .bool s.folder, .slice a s.units.length c, .int .i64 s.fresh]) rfl rfl rfl ?_
         rintro sb w2 hy1 hy2 hy3
         have pb2 := PB.out.ext hy2
         have x2 := X1.out.tr hy2
         clear PB X1
         have SB := Lib.hid hy1
         have PB := Lib.hid pb2
         have X1 := Lib.hid x2
         clear hy1 pb2 x2
         clear hy3 hy2)
      | (with_reducible refine wpList_boxA (t := 40) (cs := #[.int .i64 g.drive, .slice ag g.pressed.length cg]) rfl rfl rfl ?_
         rintro gb w2 hy1 hy2 hy3
         have c2 := (PB.out.ext hy2).cell
         have c3 := (SB.out.ext hy2).cell
         have x2 := X1.out.tr hy2
         clear PB X1 SB
         have GB := Lib.hid hy1
         have X1 := Lib.hid x2
         clear hy1 x2
         clear hy3 hy2))
    go_upto_region 3 with (
        have hgd := HS.out
        go_at_call 31
        refine (hgd _ X1.out).mono ?_
        rintro e wB ⟨mb, pb, ub, c4, rfl, hmo, hx3⟩
        have gb2 := GB.out.ext hx3
        have lx := X1.out.size
        have x2 := X1.out.tr hx3
        have hmo2 := hmo
        have lB := hx3.size
        clear c2 c3 GB X1 hgd hx3 HS hmo
        have kgb := gb2.cell
        have GB := Lib.hid gb2
        have X1 := Lib.hid x2
        have HM := Lib.hid hmo2
        have LX := Lib.hid lx
        have LB := Lib.hid lB
        clear gb2 x2 hmo2 lx lB)
    cases ba
    · have hfe : fiErr p s g = 1 := by unfold fiErr; rw [HGO.out]; rfl
      have HFE := Lib.hid hfe
      clear hfe
      go_wp2_with (
         have hgd := HAI.out
         go_at_call 32
         refine (hgd _ _ _ _ _ _ _ X1.out HM.out).mono ?_
         rintro e w4 ⟨rfl, hx4⟩
         have gb2 := GB.out.ext hx4
         have hm2 := HM.out.ext hx4
         have x2 := X1.out.tr hx4
         clear hgd GB X1 HM HAI kgb
         have GB := Lib.hid gb2
         have X1 := Lib.hid x2
         have HM := Lib.hid hm2
         clear gb2 x2 hm2)
      go_ret2
      exact FindPost.no HFE.out (by decide) X1.out
    · obtain ⟨r, hr⟩ : ∃ r, seekD p s g = r := ⟨_, rfl⟩
      obtain ⟨l, at0⟩ := r
      have hok := seek_ok p s g
      rw [hr] at hok
      obtain ⟨hback, hap, hfo⟩ := hok
      dsimp only at hback hap hfo
      have hfe : fiErr p s g = if at0 < 0 then 4 else 0 := by unfold fiErr; rw [HGO.out, hr]; rfl
      have hfd : findD p s g = (backD l 40000 at0).reverse := by unfold findD; rw [hr]
      have hll := hap.len
      have hl1 : at0 ≤ 32768 := by rcases hfo with h | h <;> omega
      have hse : ∀ W mb pb ub c B vj0 xb, Ext w W → MOw B W mb pb ub c p s vj0 → Blk W xb #[.int .i64 g.drive, .slice ag g.pressed.length cg] 40 →
          Calls Tryz.prog 33 #[.pointer (some ⟨mb, 0, none⟩), .func (.func 34) #[] #[.pointer (some ⟨xb, 0, none⟩)]] W fun e w' =>
            ∃ va, e = .returned (.tuple #[va, .int .i64 at0]) ∧ SrRow B W.heap.size pb p vj0 l va w' ∧ Ext W w' := fun W mb pb ub c B vj0 xb k h hx =>
        (search_any W h HUL.out HUJ.out HUP.out 34 #[.pointer (some ⟨xb, 0, none⟩)] (fulD g) (fun a w => by kernel_rfl)
          (fun W' m u c' t k' hm ht => HF1.out W' m pb u c' B xb t vj0 (k.tr k') hm (by rw [ht]; exact Nat.le_trans HUL.out (by decide)) (hx.ext k'))).mono fun e w' ⟨va, he, hrow, hx'⟩ => by
            have h1 : searchD p (fulD g) 40000 0 [⟨s, 0, 0, -1⟩] = (l, at0) := hr
            rw [h1] at he hrow
            exact ⟨va, he, hrow, hx'⟩
      clear hr hap
      have HBK := Lib.hid hback
      have HFE := Lib.hid hfe
      have HFD := Lib.hid hfd
      have HLL := Lib.hid hll
      have HSE := Lib.hid hse
      have HFO := Lib.hid hfo
      clear hback hfe hfd hll hse hfo
      go_upto_region 7 with (first
        | (have hgd := HAI.out
           go_at_call 32
           refine (hgd _ _ _ _ _ _ _ X1.out HM.out).mono ?_
           rintro e w4 ⟨rfl, hx4⟩
           have gb2 := GB.out.ext hx4
           have hm2 := HM.out.ext hx4
           have x2 := X1.out.tr hx4
           clear hgd GB X1 HM HAI kgb
           have GB := Lib.hid gb2
           have X1 := Lib.hid x2
           have HM := Lib.hid hm2
           clear gb2 x2 hm2)
        | (have hgd := HSE.out
           go_at_call 33
           refine (hgd _ _ _ _ _ _ _ _ X1.out HM.out GB.out).mono ?_
           rintro e w5 ⟨va, rfl, hrow, hx5⟩
           obtain ⟨f, fu, fc, hown, _⟩ := hrow
           obtain ⟨a5, c5, hva⟩ := row_form hown
           subst hva
           have x2 := X1.out.tr hx5
           clear hgd GB X1 HM HSE hx5
           have X1 := Lib.hid x2
           have HO := Lib.hid hown
           clear x2 hown))
      by_cases h2 : at0 < 0
      · have hfe2 : fiErr p s g = 4 := by rw [HFE.out, if_pos h2]
        have HFE2 := Lib.hid hfe2
        clear hfe2
        go_wp2
        go_ret2
        exact FindPost.no HFE2.out (by decide) X1.out
      · have hfe2 : fiErr p s g = 0 := by rw [HFE.out, if_neg h2]
        obtain ⟨i0, rfl⟩ : ∃ i : Nat, at0 = i := ⟨at0.toNat, by omega⟩
        have hi0 : i0 < l.length := by rcases HFO.out with h | h <;> omega
        have hb0 := backD_len HBK.out 40000 (i0:Int) (by omega)
        obtain ⟨bk, hbk⟩ : ∃ b, backD l 40000 (i0:Int) = b := ⟨_, rfl⟩
        have hfd2 := HFD.out
        rw [hbk] at hfd2 hb0
        have hbl : bk.length ≤ 32768 := by have := HLL.out; omega
        clear HFD HFE h2
        have HFE2 := Lib.hid hfe2
        have HFD2 := Lib.hid hfd2
        have HBL := Lib.hid hbl
        have HB0 := Lib.hid hbk
        clear hfe2 hfd2 hbl hbk
        go_upto_region 10 with (fail)

        go_loopw [11, 12] (fun t11 t12 wr => ∃ (i : Nat) (acc : List (Int × Int)), t11 = .int .i64 i ∧ i < l.length ∧ Hid (wr.ownsRow w5.heap.size 72 2 t12 acc.length (acL acc)) ∧ Hid (acc ++ backD l 40000 i = bk) ∧ Hid (Ext w5 wr)) (fun t11 _ _ => (intOf t11).toNat)
        case atStart => exact ⟨i0, [], rfl, hi0, World.ownsRow_nil _ _ _ _, HB0.out, Below.refl _ _⟩
        case round =>
          obtain ⟨i, acc, rfl, hil, HA, HAC, HX⟩ := hrel
          obtain ⟨a6, c6, rfl⟩ := row_form HA.out
          obtain ⟨g5, c7, hv, hcell⟩ := owns_pos HO.out (by omega)
          cases hv
          have hst1 := stL_get f l i
          have d1 := HX.out.cellSome (hcell (i * 4 + 1) (.int .i64 l[i].kind) (by rw [hst1 1 hil (by omega)]; rfl))
          have d2 := HX.out.cellSome (hcell (i * 4 + 2) (.int .i64 l[i].unit) (by rw [hst1 2 hil (by omega)]; rfl))
          have d30 := hcell (i * 4 + 3) (.int .i64 l[i].from_) (by rw [hst1 3 hil (by omega)]; rfl)
          have d3 := HX.out.cellSome d30
          have hbi := HBK.out i hil
          have hstop := backD_stop (l := l) (f := 39999) (i := (i:Int)) (by simpa using hil)
          have hstep := backD_step (l := l) (f := 39999) (i := (i:Int)) (by simpa using hil)
          have hfuel := backD_fuel HBK.out 39999 40000
          simp only [Int.toNat_natCast] at hstop hstep
          obtain ⟨⟨ta, tk, tu, tf⟩, ht⟩ : ∃ t, l[i] = t := ⟨_, rfl⟩
          simp only [ht] at d1 d2 d3 d30 hbi hstop hstep
          have i1 : (0:Int) ≤ (i:Int) := by omega
          have i2 : (i:Int) < (l.length:Int) := by omega
          have hacl : acc.length ≤ 32768 := by
            have h1 := congrArg List.length HAC.out
            rw [List.length_append] at h1
            have := HBL.out
            omega
          clear hst1 hcell ht
          have STOP := Lib.hid hstop
          have STEP := Lib.hid hstep
          have FUEL := Lib.hid hfuel
          have ACL := Lib.hid hacl
          have D30 := Lib.hid d30
          clear hstop hstep hfuel hacl d30
          by_cases hf : tf < 0
          · have i3 : decide ((0:Int) ≤ tf) = false := decide_eq_false (by omega)
            have hend := HAC.out
            rw [STOP.out hf, List.append_nil] at hend
            have hrev := fun W (h : Ext wr W) => reverse_any (B := w5.heap.size) acc (.slice a6 acc.length c6) W (owns_ext HA.out h) (Nat.le_trans ACL.out (by decide))
            have HEND := Lib.hid hend
            have HREV := Lib.hid hrev
            clear hend hrev
            go_wp2_with (
              go_at_call 36
              refine (HREV.out _ (Below.refl _ _)).mono ?_
              rintro e w7 ⟨rfl, hown7, ho7⟩
              have x7 := (X1.out.tr HX.out).then_only ho7 (fun b hb => by have h5 := (HA.out.lt b hb).1; have h6 := X1.out.size; omega)
              have OW7 := Lib.hid hown7
              have X7 := Lib.hid x7
              clear hown7 x7)
            go_ret2
            have hfl : findL p s g = acc.reverse := by unfold findL; rw [if_pos HFE2.out, HFD2.out, HEND.out]
            exact ⟨_, by rw [HFE2.out]; rfl, by rw [hfl, List.length_reverse]; exact owns_weak OW7.out X1.out.size, X7.out⟩
          · have i3 : (0:Int) ≤ tf := by omega
            obtain ⟨tn, rfl⟩ : ∃ n : Nat, tf = n := ⟨tf.toNat, by omega⟩
            have htn : tn < i := by omega
            have hnext : (acc ++ [(tk, tu)]) ++ backD l 40000 (tn:Int) = bk := by
              rw [← HAC.out, STEP.out hf, List.append_assoc, FUEL.out _ (by omega) (by simp; have := HLL.out; omega) (by simp; have := HLL.out; omega)]; rfl
            have HNX := Lib.hid hnext
            clear hnext
            go_wp2_with (
              at_builtin
              refine wpList_app (n := acc.length) (m := 1) tActs rfl rfl (v := .slice a6 acc.length c6) rfl (owns_ext HA.out (ext_lit _ _ _)) rfl (Src.lit _ [.int .i64 tk, .int .i64 tu] 1 2 rfl 72 1) (by simp [Value.oneCell']) (by have := ACL.out; omega) (Nat.le_trans HX.out.size (by simp)) ?_
              rintro v' w10 t1 t2 t3
              have xt := (HX.out.tr (ext_lit _ _ _)).then_only (only_grown t2) (fun b hb => (HA.out.lt b hb).1)
              have e3 := xt.cellSome D30.out
              clear d1 d2 d3
              have T1 := Lib.hid t1
              have XT := Lib.hid xt
              clear t1 xt
              clear t2 t3)
            go_roundw
            case rel => exact ⟨tn, acc ++ [(tk, tu)], rfl, by omega, by rw [acL_snoc, List.length_append]; exact T1, HNX, XT⟩
            case measure => first | (simp [intOf]; done) | (simp [intOf]; omega)
  · have hpe : fiErr p s g = e1 := by unfold fiErr goErr; rw [he1, if_pos h1, if_pos h1]
    have hs := fun w1 (k : Ext w w1) => (hst w1 k).mono fun e w' (h : StartPost w1 p s _ e w') => (h.resolve_right fun h => h1 (he1 ▸ h.1)).2
    rw [he1] at hs
    have f1 : (e1 != 0) = true := by simp [h1]
    have f2 : (e1 == 0) = false := by simp [h1]
    have HPE := Lib.hid hpe
    have H1 := Lib.hid h1
    have HS := Lib.hid hs
    clear hpe h1 hs
    clear he1 hst
    go_enter Tryz.func10, Tryz.ntmps10
    go_upto_region 1 with (first
      | (with_reducible refine wpList_boxA (t := 34) (cs := #[.slice aj p.jam.length cj, .int .i64 p.warm, .int .i64 p.tail, .int .i64 p.dirt]) rfl rfl rfl ?_
         rintro xb w1 hx1 hx2 hx3
         have PB := Lib.hid hx1
         have X1 := Lib.hid hx2
         clear hx1 hx2
         clear hx3)
      | (with_reducible refine wpList_boxA (t := 38) (cs := #[.int .i64 s.drive, .bool s.folder, .slice a s.units.length c, .int .i64 s.fresh]) rfl rfl rfl ?_
         rintro sb w2 hy1 hy2 hy3
         have pb2 := PB.out.ext hy2
         have x2 := X1.out.tr hy2
         clear PB X1
         have SB := Lib.hid hy1
         have PB := Lib.hid pb2
         have X1 := Lib.hid x2
         clear hy1 pb2 x2
         clear hy3 hy2)
      | (with_reducible refine wpList_boxA (t := 40) (cs := #[.int .i64 g.drive, .slice ag g.pressed.length cg]) rfl rfl rfl ?_
         rintro gb w2 hy1 hy2 hy3
         have c2 := (PB.out.ext hy2).cell
         have c3 := (SB.out.ext hy2).cell
         have x2 := X1.out.tr hy2
         clear PB X1 SB
         have GB := Lib.hid hy1
         have X1 := Lib.hid x2
         clear hy1 x2
         clear hy3 hy2))
    go_wp2_with (
        have hgd := HS.out
        go_at_call 31
        refine (hgd _ X1.out).mono ?_
        rintro e w3 ⟨rfl, hx3⟩
        have x2 := X1.out.tr hx3
        clear c2 c3 X1 hgd hx3 HS
        have X1 := Lib.hid x2
        clear x2)
    go_ret2
    exact FindPost.no HPE.out H1.out X1.out
end Go.Proofs.YtojobdffnnibaaaGreat

namespace Go.Proofs.YtojobdffnnibaaaGreat
open Go.RowKit
set_option linter.unusedVariables false
set_option linter.unusedSimpArgs false

def beginS (p : PressD) : StD := if pErr p = 0 then beginD p else zD

set_option maxRecDepth 100000 in
set_option maxHeartbeats 2000000 in
theorem sameTruths_eq (l : List Bool) (va vb : Value) (w : World) (ha : Truths w va l) (hb : Truths w vb l) :
    Calls Tryz.prog 22 #[va, vb] w fun e w' => e = .returned (.bool true) ∧ Ext w w' := by
  obtain ⟨hl, a, c, hva, _, hca⟩ := ha
  rw [List.length_map] at hva hca hl
  subst hva
  obtain ⟨_, b, d, hvb, _, hcb⟩ := hb
  rw [List.length_map] at hvb hcb
  subst hvb
  have HCA := Lib.hid hca
  have HCB := Lib.hid hcb
  clear hca hcb
  go_enter Tryz.func22, Tryz.ntmps22
  go_wp2
  go_loopw [5] (fun t5 wr => ∃ k : Nat, k ≤ l.length ∧ t5 = .int .i64 k ∧ Hid (Ext w wr)) (fun t5 _ => l.length - (intOf t5).toNat)
  case atStart => exact ⟨0, by omega, rfl, Below.refl _ _⟩
  case round =>
    obtain ⟨k, hk, rfl, HX⟩ := hrel
    by_cases hlt : k < l.length
    · obtain ⟨b1, o1, rfl, hc⟩ := HCA.out (by omega)
      obtain ⟨b2, o2, rfl, hc2⟩ := HCB.out (by omega)
      have d0 := HX.out.cellSome (hc k (.bool l[k]) (by simp [hlt]))
      have e0 := HX.out.cellSome (hc2 k (.bool l[k]) (by simp [hlt]))
      obtain ⟨u, hu⟩ : ∃ u, l[k] = u := ⟨_, rfl⟩
      rw [hu] at d0 e0
      have i1 : (0:Int) ≤ (k:Int) := by omega
      have i2 : (k:Int) < (l.length:Int) := by omega
      clear hu hc hc2
      go_upto_region 6 with (fail)
      go_quiet (fail)
      have xq := HX.out.tr (Ext.of_drewN wr nq)
      generalize wr.drewN nq = wq at *
      have XQ := Lib.hid xq
      clear xq
      go_wp2
      go_roundw
      case rel => exact ⟨k + 1, by omega, by go_num, XQ⟩
      case measure => first | (simp [intOf]; done) | (simp [intOf]; omega)
    · have i2 : decide ((k:Int) < (l.length:Int)) = false := decide_eq_false (by omega)
      obtain rfl : k = l.length := by omega
      go_wp2_with (fail)
      go_ret
      exact ⟨rfl, HX.out⟩

set_option maxRecDepth 100000 in
set_option maxHeartbeats 2000000 in
theorem sameActions_eq (l : List (Int × Int)) (va vb : Value) (w : World) (ha : AcIn w va l) (hb : AcIn w vb l) :
    Calls Tryz.prog 12 #[va, vb] w fun e w' => e = .returned (.bool true) ∧ Ext w w' := by
  obtain ⟨hl, a, c, hva, hca⟩ := ha
  subst hva
  obtain ⟨_, b, d, hvb, hcb⟩ := hb
  subst hvb
  have HCA := Lib.hid hca
  have HCB := Lib.hid hcb
  clear hca hcb
  go_enter Tryz.func12, Tryz.ntmps12
  go_wp2
  go_loopw [5] (fun t5 wr => ∃ k : Nat, k ≤ l.length ∧ t5 = .int .i64 k ∧ Hid (Ext w wr)) (fun t5 _ => l.length - (intOf t5).toNat)
  case atStart => exact ⟨0, by omega, rfl, Below.refl _ _⟩
  case round =>
    obtain ⟨k, hk, rfl, HX⟩ := hrel
    by_cases hlt : k < l.length
    · obtain ⟨b1, o1, rfl, hc⟩ := HCA.out (by omega)
      obtain ⟨b2, o2, rfl, hc2⟩ := HCB.out (by omega)
      have d0 := HX.out.cellSome (hc k hlt).1
      have d1 := HX.out.cellSome (hc k hlt).2
      have e0 := HX.out.cellSome (hc2 k hlt).1
      have e1 := HX.out.cellSome (hc2 k hlt).2
      obtain ⟨u, hu⟩ : ∃ u, l[k] = u := ⟨_, rfl⟩
      rw [hu] at d0 d1 e0 e1
      obtain ⟨uk, uu⟩ := u
      dsimp only at *
      have i1 : (0:Int) ≤ (k:Int) := by omega
      have i2 : (k:Int) < (l.length:Int) := by omega
      clear hu hc hc2
      go_upto_region 6 with (fail)
      go_quiet (fail)
      have xq := HX.out.tr (Ext.of_drewN wr nq)
      generalize wr.drewN nq = wq at *
      have XQ := Lib.hid xq
      clear xq
      go_wp2
      go_roundw
      case rel => exact ⟨k + 1, by omega, by go_num, XQ⟩
      case measure => first | (simp [intOf]; done) | (simp [intOf]; omega)
    · have i2 : decide ((k:Int) < (l.length:Int)) = false := decide_eq_false (by omega)
      obtain rfl : k = l.length := by omega
      go_wp2_with (fail)
      go_ret
      exact ⟨rfl, HX.out⟩

set_option maxRecDepth 100000 in
set_option maxHeartbeats 2000000 in
theorem lawActions_any (l : List (Int × Int)) (va : Value) (w : World) (ha : AcIn w va l) (hl : l.length ≤ 1000000) :
    Calls Tryz.prog 14 #[va] w fun e w' => ∃ v, e = .returned v ∧ Ext w w' ∧ w'.ownsRow w.heap.size 72 2 v l.length (acL l) := by
  obtain ⟨_, a, c, hva, hca⟩ := ha
  subst hva
  have HCA := Lib.hid hca
  have HL := Lib.hid hl
  clear hca hl
  go_enter Tryz.func14, Tryz.ntmps14
  go_upto_region 3 with (fail)
  go_loopw [3, 4] (fun v t4 wr => ∃ k : Nat, k ≤ l.length ∧ t4 = .int .i64 k ∧ Hid (Ext w wr) ∧ Hid (wr.ownsRow w.heap.size 72 2 v k (acL (l.take k)))) (fun _ t4 _ => l.length - (intOf t4).toNat)
  case atStart => exact ⟨0, by omega, rfl, Below.refl _ _, World.ownsRow_nil _ _ _ _⟩
  case round =>
    rename_i v
    obtain ⟨k, hk, rfl, HX, HO⟩ := hrel
    obtain ⟨a5, c5, rfl⟩ := row_form HO.out
    have hkb : k ≤ 1000000 := Nat.le_trans hk HL.out
    by_cases hlt : k < l.length
    · obtain ⟨b1, o1, rfl, hc⟩ := HCA.out (by omega)
      have d0 := HX.out.cellSome (hc k hlt).1
      have d1 := HX.out.cellSome (hc k hlt).2
      have hsn : acL (l.take (k + 1)) = acL (l.take k) ++ acC l[k] := by
        unfold acL; rw [List.take_succ_eq_append_getElem hlt, List.flatMap_append]; simp
      obtain ⟨u, hu⟩ : ∃ u, l[k] = u := ⟨_, rfl⟩
      rw [hu] at d0 d1 hsn
      obtain ⟨uk, uu⟩ := u
      dsimp only at *
      have i1 : (0:Int) ≤ (k:Int) := by omega
      have i2 : (k:Int) < (l.length:Int) := by omega
      clear hu hc
      have HSN := Lib.hid hsn
      clear hsn
      go_wp2_with (
        at_builtin
        refine wpList_app (n := k) (m := 1) tActs rfl rfl (v := .slice a5 k c5) rfl (owns_ext HO.out (ext_lit _ _ _)) rfl (Src.lit _ [.int .i64 uk, .int .i64 uu] 1 2 rfl 72 1) (by simp [Value.oneCell']) (by omega) (Nat.le_trans HX.out.size (by simp)) ?_
        rintro v' w10 t1 t2 t3
        have x2 := (HX.out.tr (ext_lit wr _ _)).then_only (only_grown t2) (fun b hb => (HO.out.lt b hb).1)
        rw [show acL (l.take k) ++ [Value.int .i64 uk, .int .i64 uu] = acL (l.take (k + 1)) from HSN.out.symm] at t1
        clear HO HX
        have HO := Lib.hid t1
        have HX := Lib.hid x2
        clear t1 x2
        clear t2 t3)
      go_roundw
      case rel => exact ⟨k + 1, by omega, by go_num, HX, HO⟩
      case measure => first | (simp [intOf]; done) | (simp [intOf]; omega)
    · have i2 : decide ((k:Int) < (l.length:Int)) = false := decide_eq_false (by omega)
      obtain rfl : k = l.length := by omega
      have ho := HO.out
      rw [List.take_length] at ho
      have HO2 := Lib.hid ho
      clear ho
      go_wp2_with (fail)
      go_ret
      exact ⟨_, rfl, HX.out, HO2.out⟩
end Go.Proofs.YtojobdffnnibaaaGreat

namespace Go.Proofs.YtojobdffnnibaaaGreat
open Go.RowKit
set_option linter.unusedVariables false
set_option linter.unusedSimpArgs false

theorem allow_at {p : PressD} {s : StD} {i : Nat} {u : UnitD} {d : Int} {jk fo : Bool} {no np : Nat} (hu : s.units.getD i default = u) (hd : s.drive = d) (hj : p.jam.getD i false = jk) (hf : s.folder = fo) (hno : nOpen s = no) (hnp : nPr s = np) (k : Int) :
    allowD p s k i = (
      if k = 1 then d == 0 && !u.op
      else if k = 2 then u.op
      else if k = 3 then d == 1 && !u.th
      else if k = 4 then d == 1 && !u.th && !jk
      else if k = 5 then d != 0 && u.th && u.cl && !u.pr
      else if k = 6 then u.pr && (d != 2 || decide (1 < np))
      else if k = 7 then d != 1 && !decide (0 < no)
      else if k = 8 then d == 1 && decide (0 < np)
      else if k = 9 then d != 0 && !decide (0 < np)
      else if k = 10 then d == 0 && !fo
      else if k = 11 then fo
      else d == 0 && u.op && u.th) := by
  subst hu hd hj hf hno hnp
  unfold allowD
  rw [opened_n, anyPr_n]

set_option maxRecDepth 100000 in
set_option maxHeartbeats 4000000 in
theorem rAllowed_any {p : PressD} {s : StD} (g : Good p s) (k : Int) (i : Nat) (hk : 1 ≤ k ∧ k ≤ 12) (hi : i < s.units.length) (vj vu : Value) (w : World) (hj : Truths w vj p.jam) (hu : UnIn w vu s.units) :
    Calls Tryz.prog 79 #[pV vj p, sV vu s, .agg #[.int .i64 k, .int .i64 i]] w fun e w' => e = .returned (.bool (allowD p s k i)) ∧ Ext w w' := by
  have hl3 := g.small
  have hct := fun w1 (k : Ext w w1) => rCount_any s vu w1 (hu.ext k) (by omega)
  obtain ⟨a, c, rfl, Hu⟩ := hu.form
  obtain ⟨_, aj, cj, hvj, _, hcj⟩ := hj
  rw [List.length_map] at hvj hcj
  subst hvj
  obtain ⟨ua, uo, rfl, hcu⟩ := UnIn.cells Hu.out (by omega)
  obtain ⟨d0, d1, d2, d3, d4⟩ := hcu i hi
  obtain ⟨ja, jo, rfl, hcj2⟩ := hcj (by rw [← g.len]; omega)
  have hij : i < p.jam.length := by rw [← g.len]; exact hi
  have hgj : p.jam.getD i false = p.jam[i] := by rw [List.getD_eq_getElem?_getD, List.getElem?_eq_getElem hij]; rfl
  have j0 := hcj2 i (.bool p.jam[i]) (by simp [hij])
  have hgu : s.units.getD i default = s.units[i] := by rw [List.getD_eq_getElem?_getD, List.getElem?_eq_getElem hi]; rfl
  have hweb : s.drive = 0 → s.units[i].pr = false := fun h => by
    cases h2 : s.units[i].pr
    · rfl
    · exact absurd h (g.web _ (List.getElem_mem hi) h2).2
  obtain ⟨u, hux⟩ : ∃ u, s.units[i] = u := ⟨_, rfl⟩
  obtain ⟨jk, hjk⟩ : ∃ b, p.jam[i] = b := ⟨_, rfl⟩
  obtain ⟨d, hd⟩ : ∃ d, s.drive = d := ⟨_, rfl⟩
  obtain ⟨fo, hfo⟩ : ∃ f, s.folder = f := ⟨_, rfl⟩
  obtain ⟨fr, hfr⟩ : ∃ f, s.fresh = f := ⟨_, rfl⟩
  obtain ⟨n, hn⟩ : ∃ n, s.units.length = n := ⟨_, rfl⟩
  obtain ⟨m, hm⟩ : ∃ n, p.jam.length = n := ⟨_, rfl⟩
  obtain ⟨no, hno⟩ : ∃ n, nOpen s = n := ⟨_, rfl⟩
  obtain ⟨np, hnp⟩ : ∃ n, nPr s = n := ⟨_, rfl⟩
  rw [hux] at hgu d0 d1 d2 d3 d4 hweb
  rw [hjk] at hgj j0
  have hal := allow_at hgu hd hgj hfo hno hnp
  have hdr := g.dr
  unfold pV sV at *
  rw [hn] at hct hi hl3 ⊢
  rw [hm] at hij ⊢
  rw [hd] at hct hdr hweb ⊢
  rw [hfo, hfr] at hct ⊢
  rw [hno, hnp] at hct
  obtain ⟨B, hB⟩ : ∃ b, allowD p s k i = b := ⟨_, rfl⟩
  have hal2 := hal k
  rw [hB] at hal2 ⊢
  obtain ⟨uop, uth, ucl, upr, uin⟩ := u
  dsimp only at hal2 d0 d1 d2 d3 d4 hweb
  have i1 : (0:Int) ≤ (i:Int) := by omega
  have i2 : (i:Int) < (n:Int) := by omega
  have i3 : (i:Int) < (m:Int) := by omega
  have HCT := Lib.hid hct
  have HAL := Lib.hid hal2
  have HW := Lib.hid hweb
  have HK := Lib.hid hk
  have HDR := Lib.hid hdr
  have D0 := Lib.hid d0
  have D1 := Lib.hid d1
  have D2 := Lib.hid d2
  have D3 := Lib.hid d3
  have D4 := Lib.hid d4
  have J0 := Lib.hid j0
  clear hct hal2 hweb hk hdr d0 d1 d2 d3 d4 j0
  clear hal hB hcu hcj hcj2 hgu hgj hux hjk hd hfo hfr hn hm hno hnp g Hu
  clear hl3
  go_enter Tryz.func79, Tryz.ntmps79
  go_upto_region 1 with (first
    | (with_reducible refine wpList_boxA (t := 24) (cs := #[.slice (some ⟨ja, jo, none⟩) m cj, .int .i64 p.warm, .int .i64 p.tail, .int .i64 p.dirt]) rfl rfl rfl ?_
       rintro xb w1 hx1 hx2 hx3
       have PB := Lib.hid hx1
       have X1 := Lib.hid hx2
       clear hx1 hx2
       clear hx3)
    | (with_reducible refine wpList_boxA (t := 27) (cs := #[.int .i64 d, .bool fo, .slice (some ⟨ua, uo, none⟩) n c, .int .i64 fr]) rfl rfl rfl ?_
       rintro sb w2 hy1 hy2 hy3
       have pb2 := PB.out.ext hy2
       have x2 := X1.out.tr hy2
       clear PB X1
       have SB := Lib.hid hy1
       have PB := Lib.hid pb2
       have X1 := Lib.hid x2
       clear hy1 pb2 x2
       clear hy3 hy2)
    | (with_reducible refine wpList_boxA (t := 66) (cs := #[.int .i64 k, .int .i64 i]) rfl rfl rfl ?_
       rintro ab w3 hy1 hy2 hy3
       have pb2 := PB.out.ext hy2
       have sb2 := SB.out.ext hy2
       have x2 := X1.out.tr hy2
       clear PB X1 SB
       have c2 := sb2.cell
       have c3 := hy1.cell
       have d0 := x2.cellSome D0.out
       have d1 := x2.cellSome D1.out
       have d2 := x2.cellSome D2.out
       have d3 := x2.cellSome D3.out
       have d4 := x2.cellSome D4.out
       clear D0 D1 D2 D3 D4
       have SB := Lib.hid sb2
       have PB := Lib.hid pb2
       have X1 := Lib.hid x2
       have AB := Lib.hid hy1
       have D0 := Lib.hid d0
       have D1 := Lib.hid d1
       have D2 := Lib.hid d2
       have D3 := Lib.hid d3
       have D4 := Lib.hid d4
       clear sb2 pb2 x2 hy1 d0 d1 d2 d3 d4
       have d0 := D0.out
       have d1 := D1.out
       have d2 := D2.out
       have d3 := D3.out
       have d4 := D4.out
       clear hy3 hy2))
  go_upto_region 3 with (first
    | (with_reducible refine wpList_allocA (t := 63) rfl rfl Tryz.zeroValue63 ?_
       rintro ub w4 hy1 hy2 hy3
       have pb2 := PB.out.ext hy2
       have sb2 := SB.out.ext hy2
       have ab2 := AB.out.ext hy2
       have x2 := X1.out.tr hy2
       have d0 := hy2.cellSome D0.out
       have d1 := hy2.cellSome D1.out
       have d2 := hy2.cellSome D2.out
       have d3 := hy2.cellSome D3.out
       have d4 := hy2.cellSome D4.out
       have lz : w3.heap.size ≤ ub := hy3
       clear c2 c3 PB SB AB D0 D1 D2 D3 D4
       have c2 := sb2.cell
       have c3 := ab2.cell
       have UB := Lib.hid hy1
       have X2 := Lib.hid x2
       have PB := Lib.hid pb2
       have SB := Lib.hid sb2
       have AB := Lib.hid ab2
       have LZ := Lib.hid lz
       have Z := Lib.hid hy2
       clear hy1 x2 pb2 sb2 ab2 lz hy2
       clear hy3)
    | (with_reducible refine wpList_storeK (ty := 63) (cells := #[.bool uop, .bool uth, .bool ucl, .bool upr, .int .i64 uin]) rfl rfl UB.out ?_ ?_ ?_ ?_ ?_ ?_
       · rfl
       · rfl
       · kernel_rfl
       · rfl
       · simp [Value.oneCell']
       rintro w5 hb ho
       have x2 := X2.out.then_only ho (fun k (e : k = ub) => by rw [e]; exact Nat.le_trans X1.out.size LZ.out)
       have pb2 := PB.out.only ho (fun e => absurd (blk_ty PB.out (e ▸ UB.out)) (by decide))
       have sb2 := SB.out.only ho (fun e => absurd (blk_ty SB.out (e ▸ UB.out)) (by decide))
       have ab2 := AB.out.only ho (fun e => absurd (blk_ty AB.out (e ▸ UB.out)) (by decide))
       clear c2 c3 d0 d1 d2 d3 d4 PB SB AB UB X2 ho LZ Z X1
       have c2 := sb2.cell
       have X1 := Lib.hid x2
       have PB := Lib.hid pb2
       have SB := Lib.hid sb2
       have AB := Lib.hid ab2
       have UB := Lib.hid hb
       clear x2 pb2 sb2 ab2 hb)
    | (go_at_call 78
       refine (HCT.out _ X1.out).mono ?_
       rintro e w6 ⟨rfl, hx⟩
       have pb2 := PB.out.ext hx
       have sb2 := SB.out.ext hx
       have ab2 := AB.out.ext hx
       have ub2 := UB.out.ext hx
       have x2 := X1.out.tr hx
       have c1 := pb2.cell
       have j0 := x2.cellSome J0.out
       clear c2 PB SB AB UB X1 hx HCT J0
       have c2 := sb2.cell
       have c3 := ab2.cell
       have c4 := ub2.cell
       have X1 := Lib.hid x2
       clear x2))
  have hk2 : k = 1 ∨ k = 2 ∨ k = 3 ∨ k = 4 ∨ k = 5 ∨ k = 6 ∨ k = 7 ∨ k = 8 ∨ k = 9 ∨ k = 10 ∨ k = 11 ∨ k = 12 := by have := HK.out; omega
  have hd2 : d = 0 ∨ d = 1 ∨ d = 2 := by have := HDR.out; omega
  clear HK HDR
  rcases hk2 with rfl | rfl | rfl | rfl | rfl | rfl | rfl | rfl | rfl | rfl | rfl | rfl
  · rcases hd2 with rfl | rfl | rfl <;> cases uop <;> (
      go_wp2_with (fail)
      go_ret
      exact ⟨by rw [HAL.out]; rfl, X1.out⟩)
  · clear hd2
    go_wp2_with (fail)
    go_ret
    exact ⟨by rw [HAL.out]; rfl, X1.out⟩
  · rcases hd2 with rfl | rfl | rfl <;> cases uth <;> (
      go_wp2_with (fail)
      go_ret
      exact ⟨by rw [HAL.out]; rfl, X1.out⟩)
  · rcases hd2 with rfl | rfl | rfl <;> cases uth <;> cases jk <;> (
      go_wp2_with (fail)
      go_ret
      exact ⟨by rw [HAL.out]; rfl, X1.out⟩)
  · rcases hd2 with rfl | rfl | rfl <;> cases uth <;> cases ucl <;> cases upr <;> (
      go_wp2_with (fail)
      go_ret
      exact ⟨by rw [HAL.out]; rfl, X1.out⟩)
  · by_cases h : 1 < np
    · have f1 : (1:Int) < (np:Int) := by omega
      cases upr
      · rcases hd2 with rfl | rfl | rfl <;> (
          go_wp2_with (fail)
          go_ret
          exact ⟨by rw [HAL.out]; simp, X1.out⟩)
      · rcases hd2 with rfl | rfl | rfl
        · exact absurd (HW.out rfl) (by decide)
        · (
          go_wp2_with (fail)
          go_ret
          exact ⟨by rw [HAL.out]; simp [h], X1.out⟩)
        · (
          go_wp2_with (fail)
          go_ret
          exact ⟨by rw [HAL.out]; simp [h], X1.out⟩)
    · have f1 : decide ((1:Int) < (np:Int)) = false := decide_eq_false (by omega)
      cases upr
      · rcases hd2 with rfl | rfl | rfl <;> (
          go_wp2_with (fail)
          go_ret
          exact ⟨by rw [HAL.out]; simp, X1.out⟩)
      · rcases hd2 with rfl | rfl | rfl
        · exact absurd (HW.out rfl) (by decide)
        · (
          go_wp2_with (fail)
          go_ret
          exact ⟨by rw [HAL.out]; simp [h], X1.out⟩)
        · (
          go_wp2_with (fail)
          go_ret
          exact ⟨by rw [HAL.out]; simp [h], X1.out⟩)
  · by_cases h : no = 0
    · have f1 : ((no:Int) == 0) = true := by simp [h]
      have f2 : decide ((no:Int) = 0) = true := by simp [h]
      rcases hd2 with rfl | rfl | rfl <;> (
          go_wp2_with (fail)
          go_ret
          exact ⟨by rw [HAL.out]; simp [h], X1.out⟩)
    · have f1 : ((no:Int) == 0) = false := by simp; omega
      have f2 : decide ((no:Int) = 0) = false := by simp; omega
      have h' : 0 < no := by omega
      rcases hd2 with rfl | rfl | rfl <;> (
          go_wp2_with (fail)
          go_ret
          exact ⟨by rw [HAL.out]; simp [h'], X1.out⟩)
  · by_cases h : 0 < np
    · have f1 : (0:Int) < (np:Int) := by omega
      rcases hd2 with rfl | rfl | rfl <;> (
          go_wp2_with (fail)
          go_ret
          exact ⟨by rw [HAL.out]; simp [h], X1.out⟩)
    · have f1 : decide ((0:Int) < (np:Int)) = false := decide_eq_false (by omega)
      rcases hd2 with rfl | rfl | rfl <;> (
          go_wp2_with (fail)
          go_ret
          exact ⟨by rw [HAL.out]; simp [h], X1.out⟩)
  · by_cases h : np = 0
    · have f1 : ((np:Int) == 0) = true := by simp [h]
      have f2 : decide ((np:Int) = 0) = true := by simp [h]
      rcases hd2 with rfl | rfl | rfl <;> (
          go_wp2_with (fail)
          go_ret
          exact ⟨by rw [HAL.out]; simp [h], X1.out⟩)
    · have f1 : ((np:Int) == 0) = false := by simp; omega
      have f2 : decide ((np:Int) = 0) = false := by simp; omega
      have h' : 0 < np := by omega
      rcases hd2 with rfl | rfl | rfl <;> (
          go_wp2_with (fail)
          go_ret
          exact ⟨by rw [HAL.out]; simp [h'], X1.out⟩)
  · rcases hd2 with rfl | rfl | rfl <;> cases fo <;> (
      go_wp2_with (fail)
      go_ret
      exact ⟨by rw [HAL.out]; rfl, X1.out⟩)
  · clear hd2
    go_wp2_with (fail)
    go_ret
    exact ⟨by rw [HAL.out]; rfl, X1.out⟩
  · rcases hd2 with rfl | rfl | rfl <;> cases uop <;> cases uth <;> (
      go_wp2_with (fail)
      go_ret
      exact ⟨by rw [HAL.out]; rfl, X1.out⟩)
end Go.Proofs.YtojobdffnnibaaaGreat

namespace Go.Proofs.YtojobdffnnibaaaGreat
open Go.RowKit
set_option linter.unusedVariables false
set_option linter.unusedSimpArgs false

set_option maxRecDepth 100000 in
set_option maxHeartbeats 4000000 in
theorem sitCode_any (l : List Bool) (hl : l.length = 15) (w : World) :
    Calls Tryz.prog 44 #[.agg (l.map Value.bool).toArray] w fun e w' => e = .returned (.int .i64 ((if l.getD 0 false then 1 else if l.getD 1 false then 2 else 0) + 3 * (bitsN (l.drop 2) : Nat))) ∧ Ext w w' := by
  have hat : ∀ i, i < 15 → ((l.map Value.bool).toArray)[i]? = some (.bool (l.getD i false)) := fun i hi => by
    simp [List.getD_eq_getElem?_getD, hl, hi]
  have hstep : ∀ i, i < 15 → bitsN (l.drop i) = (l.getD i false).toNat + 2 * bitsN (l.drop (i + 1)) := fun i hi => by
    rw [bitsN_drop l i (by omega), List.getD_eq_getElem?_getD, List.getElem?_eq_getElem (by omega)]; rfl
  have hbd : ∀ i, 1 ≤ i → bitsN (l.drop i) < 32768 := fun i hi => by
    have h := bitsN_lt (l.drop i)
    have h2 : 2 ^ (l.drop i).length ≤ 2 ^ 15 := Nat.pow_le_pow_right (by omega) (by rw [List.length_drop]; omega)
    omega
  have h15 : bitsN (l.drop 15) = 0 := by rw [List.drop_eq_nil_of_le (by omega)]; rfl
  obtain ⟨F, hF⟩ : ∃ F : Nat → Bool, F = fun i => l.getD i false := ⟨_, rfl⟩
  obtain ⟨G, hG⟩ : ∃ G : Nat → Nat, G = fun i => bitsN (l.drop i) := ⟨_, rfl⟩
  have hat' : ∀ i, i < 15 → ((l.map Value.bool).toArray)[i]? = some (.bool (F i)) := by rw [hF]; exact hat
  have hstep' : ∀ i, i < 15 → G i = (F i).toNat + 2 * G (i + 1) := by rw [hF, hG]; exact hstep
  have hbd' : ∀ i, 1 ≤ i → G i < 32768 := by rw [hG]; exact hbd
  have h15' : G 15 = 0 := by rw [hG]; exact h15
  have e0 : l.getD 0 false = F 0 := by rw [hF]
  have e1 : l.getD 1 false = F 1 := by rw [hF]
  have e2 : bitsN (l.drop 2) = G 2 := by rw [hG]
  rw [e0, e1, e2]
  obtain ⟨R, hR⟩ : ∃ R : Int, (if F 0 then 1 else if F 1 then 2 else 0) + 3 * (G 2 : Int) = R := ⟨_, rfl⟩
  rw [hR]
  have HR := Lib.hid hR
  clear hR
  obtain ⟨b0, b1, b2, b3, b4, b5, b6, b7, b8, b9, b10, b11, b12, b13, b14, hl15⟩ := list15 l hl
  subst hl15
  have hcs : (([b0, b1, b2, b3, b4, b5, b6, b7, b8, b9, b10, b11, b12, b13, b14] : List Bool).map Value.bool).toArray = #[.bool b0, .bool b1, .bool b2, .bool b3, .bool b4, .bool b5, .bool b6, .bool b7, .bool b8, .bool b9, .bool b10, .bool b11, .bool b12, .bool b13, .bool b14] := rfl
  rw [hcs] at hat' ⊢
  have HAT := Lib.hid hat'
  have HST := Lib.hid hstep'
  have HBD := Lib.hid hbd'
  have H15 := Lib.hid h15'
  clear hat' hstep' hbd' h15'
  clear hat hstep hbd h15 hF hG e0 e1 e2 hcs hl
  go_enter Tryz.func44, Tryz.ntmps44
  go_upto_region 3 with (
    with_reducible refine wpList_boxA (t := 105) (cs := #[.bool b0, .bool b1, .bool b2, .bool b3, .bool b4, .bool b5, .bool b6, .bool b7, .bool b8, .bool b9, .bool b10, .bool b11, .bool b12, .bool b13, .bool b14]) rfl rfl rfl ?_
    rintro xb w1 hx1 hx2 hx3
    have XB := Lib.hid hx1
    have X1 := Lib.hid hx2
    clear hx1 hx2
    clear hx3)
  go_loopw [4, 3] (fun t4 t3 wr => ∃ i : Nat, 1 ≤ i ∧ i ≤ 14 ∧ t4 = .int .i64 i ∧ t3 = .int .i64 (G (i + 1)) ∧ Hid (Ext w1 wr)) (fun t4 _ _ => (intOf t4).toNat)
  case atStart => exact ⟨14, by omega, by omega, rfl, by rw [H15.out]; rfl, Below.refl _ _⟩
  case round =>
    obtain ⟨i, hi1, hi2, rfl, rfl, HX⟩ := hrel
    have hg := HBD.out (i + 1) (by omega)
    by_cases hlt : 1 < i
    · have i1 : (1:Int) < (i:Int) := by omega
      obtain ⟨j, rfl⟩ : ∃ j, i = j + 1 := ⟨i - 1, by omega⟩
      have d := ((XB.out.ext HX.out).cell (j + 1)).trans (HAT.out (j + 1) (by omega))
      have hs := HST.out (j + 1) (by omega)
      obtain ⟨f, hf⟩ : ∃ f, F (j + 1) = f := ⟨_, rfl⟩
      obtain ⟨c, hc⟩ : ∃ c, G (j + 1 + 1) = c := ⟨_, rfl⟩
      rw [hf] at d hs
      rw [hc] at hs hg ⊢
      have i2 : (0:Int) ≤ ((j + 1 : Nat):Int) := by omega
      have i3 : ((j + 1 : Nat):Int) < 15 := by omega
      have HS := Lib.hid hs
      clear hs
      clear hf hc
      cases f
      · go_wp2
        go_roundw
        case rel => exact ⟨j, by omega, by omega, by go_num, by have := HS.out; simp at this; first | go_num | (congr 1; omega), HX⟩
        case measure => first | (simp [intOf]; done) | (simp [intOf]; omega)
      · go_wp2
        go_roundw
        case rel => exact ⟨j, by omega, by omega, by go_num, by have := HS.out; simp at this; first | go_num | (congr 1; omega), HX⟩
        case measure => first | (simp [intOf]; done) | (simp [intOf]; omega)
    · have i1 : decide ((1:Int) < (i:Int)) = false := decide_eq_false (by omega)
      obtain rfl : i = 1 := by omega
      have d0 := ((XB.out.ext HX.out).cell 0).trans (HAT.out 0 (by omega))
      have d1 := ((XB.out.ext HX.out).cell 1).trans (HAT.out 1 (by omega))
      obtain ⟨f0, hf0⟩ : ∃ f, F 0 = f := ⟨_, rfl⟩
      obtain ⟨f1, hf1⟩ : ∃ f, F 1 = f := ⟨_, rfl⟩
      obtain ⟨c, hc⟩ : ∃ c, G 2 = c := ⟨_, rfl⟩
      have hg2 : c < 32768 := by rw [← hc]; exact hg
      rw [hf0] at d0
      rw [hf1] at d1
      try rw [hc]
      clear hg
      have xw := X1.out.tr HX.out
      have XW := Lib.hid xw
      have HF0 := Lib.hid hf0
      have HF1 := Lib.hid hf1
      have HC := Lib.hid hc
      clear xw hf0 hf1 hc
      cases f0
      · cases f1
        · go_wp2
          go_ret
          exact ⟨ret_int (by rw [← HR.out, HF0.out, HF1.out, HC.out]; simp), XW.out⟩
        · go_wp2
          go_ret
          exact ⟨ret_int (by rw [← HR.out, HF0.out, HF1.out, HC.out]; simp), XW.out⟩
      · go_wp2
        go_ret
        exact ⟨ret_int (by rw [← HR.out, HF0.out, HF1.out, HC.out]; simp), XW.out⟩
end Go.Proofs.YtojobdffnnibaaaGreat

namespace Go.Proofs.YtojobdffnnibaaaGreat
open Go.RowKit
set_option linter.unusedVariables false
set_option linter.unusedSimpArgs false

/-- The code that Code answers. -/
def coD (p : PressD) (s : StD) : Int := if stErr p s = 0 then codeD s else 0
theorem sit_code {s : StD} (hd : 0 ≤ s.drive ∧ s.drive ≤ 2) (hl : s.units.length ≤ 3) : ((if (sitD s).getD 0 false then 1 else if (sitD s).getD 1 false then 2 else 0) + 3 * (bitsN ((sitD s).drop 2) : Nat) : Int) = codeD s := by
  have hE := sitK_end s hl
  have h0 : sitD s = (s.drive == 1) :: (s.drive == 2) :: ((s.folder :: unitsB s.units) ++ List.replicate (12 - 4 * s.units.length) false) := by
    rw [← hE]; unfold sitK; rw [List.take_length]; rfl
  rw [h0]
  have hd2 : s.drive = 0 ∨ s.drive = 1 ∨ s.drive = 2 := by omega
  unfold codeD
  rw [show ((s.drive == 1) :: (s.drive == 2) :: ((s.folder :: unitsB s.units) ++ List.replicate (12 - 4 * s.units.length) false)).drop 2 = (s.folder :: unitsB s.units) ++ List.replicate (12 - 4 * s.units.length) false from rfl, bitsN_append, bitsN_false, Nat.mul_zero, Nat.add_zero]
  rcases hd2 with h | h | h <;> rw [h] <;> simp

end Go.Proofs.YtojobdffnnibaaaGreat

namespace Go.Proofs.YtojobdffnnibaaaGreat
open Go.RowKit
set_option linter.unusedVariables false

def axP : PressD := ⟨[false], 3, 0, 5⟩
def axQ : PressD := ⟨[true], 3, 0, 5⟩
def axG : GoalD := ⟨2, [true]⟩
def axL : List (Int × Int) := [(7, 0), (4, 0), (3, 0), (5, 0), (8, 0)]
def ax0 : StD := ⟨0, false, [⟨false, false, false, false, 0⟩], 0⟩
def ax1 : StD := ⟨2, false, [⟨false, true, true, true, 0⟩], 0⟩
def ax2 : StD := ⟨2, false, [⟨false, true, true, true, 8⟩], 8⟩
def ax3 : StD := ⟨0, false, [⟨false, false, false, false, 8⟩], 0⟩
theorem ax_begin : pErr axP = 0 := by decide +kernel
theorem ax_find : fiErr axP ax0 axG = 0 := by decide +kernel
theorem ax_find2 : findL axP ax0 axG = axL := by decide +kernel
theorem ax_prog : pgErr axP ax0 axL = 0 := by decide +kernel
theorem ax_prog2 : progR axP ax0 0 axL = (ax1, 5, 0) := by kernel_rfl
theorem ax_print : prErr axP ax1 8 = 0 := by decide +kernel
theorem ax_print2 : prD ax1 8 = ax2 := by kernel_rfl
theorem ax_print3 : prW axP ax1 8 = [⟨1, 0, 2⟩, ⟨2, 5, 7⟩] := by kernel_rfl
theorem ax_break : brErr axP ax2 0 = 0 := by decide +kernel
theorem ax_break2 : brD ax2 0 = ax3 := by kernel_rfl
theorem ax_again : fiErr axP ax3 axG = 0 := by decide +kernel
theorem ax_again2 : (findL axP ax3 axG).length = 5 := by decide +kernel
theorem ax_none : fiErr axQ ax3 axG = 4 := by decide +kernel

theorem truths1 {w : World} {b : Nat} {x : Bool} {t : TypeId} (h : Blk w b #[.bool x] t) : Truths w (.slice (some ⟨b, 0, none⟩) 1 1) [x] := by
  refine ⟨by simp, some ⟨b, 0, none⟩, 1, rfl, fun h => (by cases h), fun _ => ⟨b, 0, rfl, fun i u hu => ?_⟩⟩
  rw [Nat.zero_add, h.cell]
  rcases i with _ | i
  · simpa using hu
  · simp at hu
theorem AcIn.lit {w : World} {b : Nat} {l : List (Int × Int)} {t : TypeId} (h : Blk w b (acL l).toArray t) (hl : l.length ≤ 1000000) : AcIn w (.slice (some ⟨b, 0, none⟩) l.length l.length) l := by
  refine ⟨by omega, some ⟨b, 0, none⟩, l.length, rfl, fun _ => ⟨b, 0, rfl, fun i hi => ⟨?_, ?_⟩⟩⟩
  · have := acL_get l i 0 hi (by omega)
    rw [Nat.add_zero] at this
    rw [Nat.zero_add, h.cell, List.getElem?_toArray, this]; rfl
  · have := acL_get l i 1 hi (by omega)
    rw [Nat.zero_add, h.cell, List.getElem?_toArray, this]; rfl
theorem AcIn.cells {w : World} {a : Option Addr} {n c : Nat} {l : List (Int × Int)} (h : AcIn w (.slice a n c) l) (h0 : 0 < l.length) :
    ∃ b o, a = some ⟨b, o, none⟩ ∧ ∀ i (h : i < l.length), w.cell? ⟨b, o + i * 2, none⟩ = some (.int .i64 l[i].1) ∧ w.cell? ⟨b, o + i * 2 + 1, none⟩ = some (.int .i64 l[i].2) := by
  obtain ⟨_, a', c', h1, h2⟩ := h
  cases h1
  exact h2 h0

theorem ax_c1 {vj : Value} (W : World) (hj : Truths W vj [false]) : Calls Tryz.prog 26 #[.agg #[vj, .int .i64 3, .int .i64 0, .int .i64 5]] W fun e w' =>
    ∃ vu, e = .returned (.tuple #[.agg #[.int .i64 0, .bool false, vu, .int .i64 0], .int .i64 0]) ∧ UnIn w' vu ax0.units ∧ Ext W w' :=
  (begin_any axP vj W hj).mono fun e w' h => by
    obtain ⟨_, vu, he, hown, hx⟩ := h.resolve_left fun h => h.1 ax_begin
    exact ⟨vu, he, UnIn.of_owns (us := ax0.units) hown (by decide), hx⟩
theorem ax_c2 {vj vu vg : Value} (W : World) (hj : Truths W vj [false]) (hu : UnIn W vu ax0.units) (hg : Truths W vg [true]) : Calls Tryz.prog 10 #[.agg #[vj, .int .i64 3, .int .i64 0, .int .i64 5], .agg #[.int .i64 0, .bool false, vu, .int .i64 0], .agg #[.int .i64 2, vg]] W fun e w' =>
    ∃ a c, e = .returned (.tuple #[.slice a 5 c, .int .i64 0]) ∧ AcIn w' (.slice a 5 c) axL ∧ Ext W w' :=
  (find_any axP ax0 axG vj vu vg W hj hu hg (by decide)).mono fun e w' h => by
    obtain ⟨va, he, hown, hx⟩ := h
    rw [ax_find] at he
    rw [ax_find2] at hown
    obtain ⟨a, c, rfl⟩ := row_form hown
    exact ⟨a, c, he, AcIn.of_owns hown (by decide), hx⟩
theorem ax_c3 {vj vu vl : Value} (W : World) (hj : Truths W vj [false]) (hu : UnIn W vu ax0.units) (hl : AcIn W vl axL) : Calls Tryz.prog 27 #[.agg #[vj, .int .i64 3, .int .i64 0, .int .i64 5], .agg #[.int .i64 0, .bool false, vu, .int .i64 0], vl] W fun e w' =>
    ∃ vu, e = .returned (.tuple #[.agg #[.int .i64 2, .bool false, vu, .int .i64 0], .int .i64 5, .int .i64 0]) ∧ w'.ownsRow W.heap.size 82 5 vu 1 (uL ax1.units) ∧ Ext W w' :=
  (program_any axP ax0 axL vj vu vl W hj hu (by decide) hl (by unfold axL I64; decide)).mono fun e w' h => by
    obtain ⟨_, vu, he, hown, hx⟩ := h.resolve_left fun h => h.1 ax_prog
    rw [ax_prog2] at he hown
    exact ⟨vu, he, hown, hx⟩
theorem ax_c4 {vj vu : Value} (W : World) (hj : Truths W vj [false]) (hu : UnIn W vu ax1.units) : Calls Tryz.prog 28 #[.agg #[vj, .int .i64 3, .int .i64 0, .int .i64 5], .agg #[.int .i64 2, .bool false, vu, .int .i64 0], .int .i64 8] W fun e w' =>
    ∃ vu g c, e = .returned (.tuple #[.agg #[.int .i64 2, .bool false, vu, .int .i64 8], .slice (some ⟨g, 0, none⟩) 2 c, .int .i64 0]) ∧ UnIn w' vu ax2.units ∧
      (∀ j u, (spL [⟨1, 0, 2⟩, ⟨2, 5, 7⟩])[j]? = some u → w'.cell? ⟨g, j, none⟩ = some u) ∧ Ext W w' :=
  (print_any axP ax1 8 vj vu W hj hu (by decide) (by unfold I64; decide)).mono fun e w' h => by
    obtain ⟨_, vu, vw, he, hown, how, hx⟩ := h.resolve_left fun h => h.1 ax_print
    rw [ax_print2] at he hown
    rw [ax_print3] at how
    obtain ⟨g, c, rfl, hc⟩ := owns_pos how (by decide)
    exact ⟨vu, g, c, he, UnIn.of_owns (us := ax2.units) hown (by decide), hc, hx⟩
theorem ax_c5 {vj vu : Value} (W : World) (hj : Truths W vj [false]) (hu : UnIn W vu ax2.units) : Calls Tryz.prog 29 #[.agg #[vj, .int .i64 3, .int .i64 0, .int .i64 5], .agg #[.int .i64 2, .bool false, vu, .int .i64 8], .int .i64 0] W fun e w' =>
    ∃ vu, e = .returned (.tuple #[.agg #[.int .i64 0, .bool false, vu, .int .i64 0], .int .i64 0, .int .i64 0]) ∧ w'.ownsRow W.heap.size 82 5 vu 1 (uL ax3.units) ∧ Ext W w' :=
  (break_any axP ax2 0 vj vu W hj hu (by decide) (by unfold I64; decide)).mono fun e w' h => by
    obtain ⟨_, vu, he, hown, hx⟩ := h.resolve_left fun h => h.1 ax_break
    have e0 : brD ax2 (0:Int).toNat = ax3 := ax_break2
    rw [e0] at he hown
    exact ⟨vu, he, hown, hx⟩
theorem ax_c6 {vj vu vg : Value} (W : World) (hj : Truths W vj [false]) (hu : UnIn W vu ax3.units) (hg : Truths W vg [true]) : Calls Tryz.prog 10 #[.agg #[vj, .int .i64 3, .int .i64 0, .int .i64 5], .agg #[.int .i64 0, .bool false, vu, .int .i64 0], .agg #[.int .i64 2, vg]] W fun e w' =>
    ∃ a c, e = .returned (.tuple #[.slice a 5 c, .int .i64 0]) ∧ Ext W w' :=
  (find_any axP ax3 axG vj vu vg W hj hu hg (by decide)).mono fun e w' h => by
    obtain ⟨va, he, hown, hx⟩ := h
    rw [ax_again] at he
    obtain ⟨a, c, rfl⟩ := row_form hown
    rw [ax_again2] at he
    exact ⟨a, c, he, hx⟩
theorem ax_c7 {vj vu vg : Value} (W : World) (hj : Truths W vj [true]) (hu : UnIn W vu ax3.units) (hg : Truths W vg [true]) : Calls Tryz.prog 10 #[.agg #[vj, .int .i64 3, .int .i64 0, .int .i64 5], .agg #[.int .i64 0, .bool false, vu, .int .i64 0], .agg #[.int .i64 2, vg]] W fun e w' =>
    ∃ va, e = .returned (.tuple #[va, .int .i64 4]) ∧ Ext W w' :=
  (find_any axQ ax3 axG vj vu vg W hj hu hg (by decide)).mono fun e w' h => by
    obtain ⟨va, he, hown, hx⟩ := h
    rw [ax_none] at he
    exact ⟨va, he, hx⟩
end Go.Proofs.YtojobdffnnibaaaGreat

namespace Go.Proofs.YtojobdffnnibaaaGreat
open Go.RowKit
set_option linter.unusedVariables false
set_option linter.unusedSimpArgs false

set_option maxRecDepth 100000 in
set_option maxHeartbeats 4000000 in
theorem awake_any (w : World) : Calls Tryz.prog 6 #[] w fun e w' => e = .returned (.bool true) ∧ Ext w w' := by
  go_enter Tryz.func6, Tryz.ntmps6
  -- the press
  go_upto_region 2 with (first
    | (with_reducible refine wpList_allocA (t := 34) rfl rfl Tryz.zeroValue34 ?_
       rintro xp w2 hx1 hx2 hx3
       have hnb := newB w #[.bool false] 4
       have jb2 := Blk.ext hnb.1 hx2
       have x2 := hnb.2.1.tr hx2
       have lx := Nat.le_trans hnb.2.1.size hx3
       have nj : w.heap.size ≠ xp := fun e => by have := Blk.lt hnb.1; omega
       clear hnb hx2 hx3
       have JB := Lib.hid jb2
       have PB := Lib.hid hx1
       have X := Lib.hid x2
       have LP := Lib.hid lx
       have NJ := Lib.hid nj
       clear jb2 hx1 x2 lx nj)
    | (with_reducible refine wpList_storeK (ty := 34) (cells := #[.slice (some ⟨w.heap.size, 0, none⟩) 1 1, .int .i64 3, .int .i64 0, .int .i64 5]) rfl rfl PB.out ?_ ?_ ?_ ?_ ?_ ?_
       · rfl
       · rfl
       · kernel_rfl
       · rfl
       · simp [Value.oneCell']
       rintro w3 hb3 ho3
       have jb2 := JB.out.only ho3 NJ.out
       have x2 := X.out.then_only ho3 (fun k (e : k = xp) => by rw [e]; exact LP.out)
       have cp := hb3.cell
       clear JB PB X ho3
       have JB := Lib.hid jb2
       have PB := Lib.hid hb3
       have X := Lib.hid x2
       clear jb2 hb3 x2))
  -- Begin
  go_upto_region 3 with (first
    | (go_at_call 26
       refine (ax_c1 _ (truths1 JB.out)).mono ?_
       rintro e w4 ⟨vu, rfl, hu, hx⟩
       obtain ⟨a, c, rfl, _⟩ := hu.form
       clear cp
       replace JB := Lib.hid (JB.out.ext hx)
       replace PB := Lib.hid (PB.out.ext hx)
       have x2 := X.out.tr hx
       clear X hx
       have X := Lib.hid x2
       have UB := Lib.hid hu
       clear x2 hu)
    | (with_reducible refine wpList_allocA (t := 38) rfl rfl Tryz.zeroValue38 ?_
       rintro xs w5 hx1 hx2 hx3
       have lz : w4.heap.size ≤ xs := hx3
       have ls : w.heap.size ≤ xs := Nat.le_trans X.out.size hx3
       clear hx3
       have SB := Lib.hid hx1
       have Z := Lib.hid hx2
       have LZ := Lib.hid lz
       have LS := Lib.hid ls
       clear hx1 hx2 lz ls)
    | (with_reducible refine wpList_storeK (ty := 38) (cells := #[.int .i64 0, .bool false, .slice a 1 c, .int .i64 0]) rfl rfl SB.out ?_ ?_ ?_ ?_ ?_ ?_
       · rfl
       · rfl
       · kernel_rfl
       · rfl
       · simp [Value.oneCell']
       rintro w6 hb6 ho6
       have hx := Z.out.then_only ho6 (fun k (e : k = xs) => by rw [e]; exact LZ.out)
       replace JB := Lib.hid (JB.out.ext hx)
       replace PB := Lib.hid (PB.out.ext hx)
       replace UB := Lib.hid (UB.out.ext hx)
       have x2 := X.out.tr hx
       clear Z ho6 SB X hx LZ
       have SB := Lib.hid hb6
       have X := Lib.hid x2
       clear hb6 x2))
  -- the goal
  go_upto_region 4 with (first
    | (with_reducible refine wpList_allocA (t := 40) rfl rfl Tryz.zeroValue40 ?_
       rintro xg w8 hx1 hx2 hx3
       have hnb := newB w6 #[.bool true] 4
       have tb2 := Blk.ext hnb.1 hx2
       have x2 := hnb.2.1.tr hx2
       have lz := Nat.le_trans hnb.2.1.size hx3
       have nt : w6.heap.size ≠ xg := fun e => by have := Blk.lt hnb.1; omega
       have ntj : w.heap.size ≠ w6.heap.size := fun e => by have := JB.out.lt; omega
       clear hnb hx2 hx3
       have TB := Lib.hid tb2
       have GB := Lib.hid hx1
       have Z := Lib.hid x2
       have LZ := Lib.hid lz
       have NT := Lib.hid nt
       have NTJ := Lib.hid ntj
       clear tb2 hx1 x2 lz nt ntj)
    | (with_reducible refine wpList_storeK (ty := 40) (cells := #[.int .i64 2, .slice (some ⟨w6.heap.size, 0, none⟩) 1 1]) rfl rfl GB.out ?_ ?_ ?_ ?_ ?_ ?_
       · rfl
       · rfl
       · kernel_rfl
       · rfl
       · simp [Value.oneCell']
       rintro w9 hb9 ho9
       have hx := Z.out.then_only ho9 (fun k (e : k = xg) => by rw [e]; exact LZ.out)
       have tb2 := TB.out.only ho9 NT.out
       replace JB := Lib.hid (JB.out.ext hx)
       replace PB := Lib.hid (PB.out.ext hx)
       replace UB := Lib.hid (UB.out.ext hx)
       replace SB := Lib.hid (SB.out.ext hx)
       have x2 := X.out.tr hx
       clear TB GB X Z ho9 hx
       have cp := PB.out.cell
       have cs := SB.out.cell
       have cg := hb9.cell
       have TB := Lib.hid tb2
       have GB := Lib.hid hb9
       have X := Lib.hid x2
       clear tb2 hb9 x2))
  -- Find
  go_upto_region 6 with (
    go_at_call 10
    refine (ax_c2 _ (truths1 JB.out) UB.out (truths1 TB.out)).mono ?_
    rintro e w10 ⟨af, cf, rfl, hf, hx⟩
    clear cp cs cg
    replace JB := Lib.hid (JB.out.ext hx)
    replace PB := Lib.hid (PB.out.ext hx)
    replace UB := Lib.hid (UB.out.ext hx)
    replace SB := Lib.hid (SB.out.ext hx)
    replace TB := Lib.hid (TB.out.ext hx)
    replace GB := Lib.hid (GB.out.ext hx)
    have x2 := X.out.tr hx
    clear X hx
    have X := Lib.hid x2
    have FB := Lib.hid hf
    clear x2 hf)
  have hnb := newB w10 #[.int .i64 7, .int .i64 0, .int .i64 4, .int .i64 0, .int .i64 3, .int .i64 0, .int .i64 5, .int .i64 0, .int .i64 8, .int .i64 0] 72
  have hlit : AcIn (w10.alloc (.cells #[.int .i64 7, .int .i64 0, .int .i64 4, .int .i64 0, .int .i64 3, .int .i64 0, .int .i64 5, .int .i64 0, .int .i64 8, .int .i64 0] 72)) (.slice (some ⟨w10.heap.size, 0, none⟩) 5 5) axL := AcIn.lit hnb.1 (by decide)
  have hxl := hnb.2.1
  clear hnb
  generalize w10.alloc (.cells #[.int .i64 7, .int .i64 0, .int .i64 4, .int .i64 0, .int .i64 3, .int .i64 0, .int .i64 5, .int .i64 0, .int .i64 8, .int .i64 0] 72) = w11 at *
  replace JB := Lib.hid (JB.out.ext hxl)
  replace PB := Lib.hid (PB.out.ext hxl)
  replace UB := Lib.hid (UB.out.ext hxl)
  replace SB := Lib.hid (SB.out.ext hxl)
  replace TB := Lib.hid (TB.out.ext hxl)
  replace GB := Lib.hid (GB.out.ext hxl)
  replace FB := Lib.hid (FB.out.ext hxl)
  have x2 := X.out.tr hxl
  obtain ⟨lb, hlb⟩ : ∃ n, w10.heap.size = n := ⟨_, rfl⟩
  rw [hlb] at hlit ⊢
  clear hxl X hlb
  have X := Lib.hid x2
  have LB := Lib.hid hlit
  clear x2 hlit
  go_upto_region 9 with (fail)
  go_loopw [8] (fun t8 wr => ∃ k : Nat, k ≤ 5 ∧ t8 = .int .i64 k ∧ Hid (Ext w11 wr)) (fun t8 _ => 5 - (intOf t8).toNat)
  case atStart => exact ⟨0, by omega, rfl, Below.refl _ _⟩
  case round =>
    obtain ⟨k, hk, rfl, HX⟩ := hrel
    by_cases hlt : k < 5
    · obtain ⟨b1, o1, rfl, hc⟩ := AcIn.cells (FB.out.ext HX.out) (by decide)
      obtain ⟨d0, d1⟩ := hc k hlt
      obtain ⟨b2, o2, hv2, hc2⟩ := AcIn.cells (LB.out.ext HX.out) (by decide)
      cases hv2
      obtain ⟨e0, e1⟩ := hc2 k hlt
      simp only [Nat.zero_add] at e0 e1
      obtain ⟨⟨ak, ax⟩, hu⟩ : ∃ u, axL[k]'hlt = u := ⟨_, rfl⟩
      rw [hu] at d0 d1 e0 e1
      dsimp only at d0 d1 e0 e1
      have i1 : (0:Int) ≤ (k:Int) := by omega
      have i2 : (k:Int) < 5 := by omega
      clear hu hc hc2
      go_upto_region 11 with (fail)
      go_quiet (fail)
      have xq := HX.out.tr (Ext.of_drewN wr nq)
      generalize wr.drewN nq = wq at *
      have XQ := Lib.hid xq
      clear xq
      go_wp2
      go_roundw
      case rel => exact ⟨k + 1, by omega, by go_num, XQ⟩
      case measure => first | (simp [intOf]; done) | (simp [intOf]; omega)
    · have i2 : decide ((k:Int) < 5) = false := decide_eq_false (by omega)
      have hx := HX.out
      replace JB := Lib.hid (JB.out.ext hx)
      replace PB := Lib.hid (PB.out.ext hx)
      replace UB := Lib.hid (UB.out.ext hx)
      replace SB := Lib.hid (SB.out.ext hx)
      replace TB := Lib.hid (TB.out.ext hx)
      replace GB := Lib.hid (GB.out.ext hx)
      replace FB := Lib.hid (FB.out.ext hx)
      have x2 := X.out.tr hx
      clear X HX hx LB
      have X := Lib.hid x2
      clear x2
      have cp := PB.out.cell
      have cs := SB.out.cell
      -- Program
      go_upto_region 14 with (first
        | (go_at_call 27
           refine (ax_c3 _ (truths1 JB.out) UB.out FB.out).mono ?_
           rintro e w12 ⟨vu, rfl, hown, hx⟩
           obtain ⟨a2, c2, rfl⟩ := row_form hown
           have hlo : ∀ b, (Value.slice a2 1 c2).ownBlock = some b → b ≠ xs := fun b hb e => by have h1 := (hown.lt b hb).1; have h2 := SB.out.lt; omega
           have jb2 := JB.out.ext hx
           have pb2 := PB.out.ext hx
           have sb2 := SB.out.ext hx
           have tb2 := TB.out.ext hx
           have gb2 := GB.out.ext hx
           have x2 := X.out.tr hx
           clear cp cs JB PB SB TB GB X UB FB hx
           have JB := Lib.hid jb2
           have PB := Lib.hid pb2
           have SB := Lib.hid sb2
           have TB := Lib.hid tb2
           have GB := Lib.hid gb2
           have X := Lib.hid x2
           have OW := Lib.hid hown
           have HLO := Lib.hid hlo
           clear jb2 pb2 sb2 tb2 gb2 x2 hown hlo)
        | (with_reducible refine wpList_storeK (ty := 38) (cells := #[.int .i64 2, .bool false, .slice a2 1 c2, .int .i64 0]) rfl rfl SB.out ?_ ?_ ?_ ?_ ?_ ?_
           · rfl
           · rfl
           · kernel_rfl
           · rfl
           · simp [Value.oneCell']
           rintro w13 hb ho
           have jb2 := JB.out.only ho (fun e => absurd (blk_ty JB.out (e ▸ SB.out)) (by decide))
           have pb2 := PB.out.only ho (fun e => absurd (blk_ty PB.out (e ▸ SB.out)) (by decide))
           have tb2 := TB.out.only ho (fun e => absurd (blk_ty TB.out (e ▸ SB.out)) (by decide))
           have gb2 := GB.out.only ho (fun e => absurd (blk_ty GB.out (e ▸ SB.out)) (by decide))
           have x2 := X.out.then_only ho (fun k (e : k = xs) => by rw [e]; exact LS.out)
           have how := owns_only OW.out ho (fun b hb e => HLO.out b hb e)
           have hun : UnIn w13 (.slice a2 1 c2) ax1.units := UnIn.of_owns (us := ax1.units) how (by decide)
           have cp := pb2.cell
           have cs := hb.cell
           clear JB PB TB GB X OW HLO SB ho how
           have JB := Lib.hid jb2
           have PB := Lib.hid pb2
           have TB := Lib.hid tb2
           have GB := Lib.hid gb2
           have X := Lib.hid x2
           have UB := Lib.hid hun
           have SB := Lib.hid hb
           clear jb2 pb2 tb2 gb2 x2 hun hb))
      -- Print
      go_upto_region 15 with (first
        | (go_at_call 28
           refine (ax_c4 _ (truths1 JB.out) UB.out).mono ?_
           rintro e w14 ⟨vu, gw, cw, rfl, hun, hsp, hx⟩
           obtain ⟨a3, c3, rfl, _⟩ := hun.form
           have f0 := hsp 0 _ rfl
           have f1 := hsp 1 _ rfl
           have f2 := hsp 2 _ rfl
           have f3 := hsp 3 _ rfl
           have f4 := hsp 4 _ rfl
           have f5 := hsp 5 _ rfl
           clear cp cs UB SB
           replace JB := Lib.hid (JB.out.ext hx)
           replace PB := Lib.hid (PB.out.ext hx)
           replace TB := Lib.hid (TB.out.ext hx)
           replace GB := Lib.hid (GB.out.ext hx)
           have x2 := X.out.tr hx
           clear X hx hsp
           have X := Lib.hid x2
           have UB := Lib.hid hun
           have F0 := Lib.hid f0
           have F1 := Lib.hid f1
           have F2 := Lib.hid f2
           have F3 := Lib.hid f3
           have F4 := Lib.hid f4
           have F5 := Lib.hid f5
           clear x2 hun f0 f1 f2 f3 f4 f5)
        | (with_reducible refine wpList_allocA (t := 38) rfl rfl Tryz.zeroValue38 ?_
           rintro xn w15 hx1 hx2 hx3
           have lz : w14.heap.size ≤ xn := hx3
           clear hx3
           have NB := Lib.hid hx1
           have Z := Lib.hid hx2
           have LZ2 := Lib.hid lz
           clear hx1 hx2 lz)
        | (with_reducible refine wpList_storeK (ty := 38) (cells := #[.int .i64 2, .bool false, .slice a3 1 c3, .int .i64 8]) rfl rfl NB.out ?_ ?_ ?_ ?_ ?_ ?_
           · rfl
           · rfl
           · kernel_rfl
           · rfl
           · simp [Value.oneCell']
           rintro w16 hb6 ho6
           have hx := Z.out.then_only ho6 (fun k (e : k = xn) => by rw [e]; exact LZ2.out)
           replace JB := Lib.hid (JB.out.ext hx)
           replace PB := Lib.hid (PB.out.ext hx)
           replace TB := Lib.hid (TB.out.ext hx)
           replace GB := Lib.hid (GB.out.ext hx)
           replace UB := Lib.hid (UB.out.ext hx)
           have x2 := X.out.tr hx
           have f0 := hx.cellSome F0.out
           have f1 := hx.cellSome F1.out
           have f2 := hx.cellSome F2.out
           have f3 := hx.cellSome F3.out
           have f4 := hx.cellSome F4.out
           have f5 := hx.cellSome F5.out
           have cp := PB.out.cell
           have cn := hb6.cell
           clear Z ho6 NB X hx LZ2 F0 F1 F2 F3 F4 F5
           have NB := Lib.hid hb6
           have X := Lib.hid x2
           clear hb6 x2))
      -- the waste; Break
      go_upto_region 18 with (first
        | (go_at_call 29
           refine (ax_c5 _ (truths1 JB.out) UB.out).mono ?_
           rintro e w17 ⟨vu, rfl, hown, hx⟩
           obtain ⟨a4, c4, rfl⟩ := row_form hown
           have hun : UnIn w17 (.slice a4 1 c4) ax3.units := UnIn.of_owns (us := ax3.units) hown (by decide)
           have hlo : ∀ b, (Value.slice a4 1 c4).ownBlock = some b → b ≠ w.heap.size := fun b hb e => by have h1 := (hown.lt b hb).1; have h2 := JB.out.lt; omega
           clear cp cn UB NB f0 f1 f2 f3 f4 f5
           replace JB := Lib.hid (JB.out.ext hx)
           replace PB := Lib.hid (PB.out.ext hx)
           replace TB := Lib.hid (TB.out.ext hx)
           replace GB := Lib.hid (GB.out.ext hx)
           have x2 := X.out.tr hx
           clear X hx
           have X := Lib.hid x2
           have UB := Lib.hid hun
           have HLO := Lib.hid hlo
           clear x2 hun hlo
           clear hown)
        | (with_reducible refine wpList_allocA (t := 38) rfl rfl Tryz.zeroValue38 ?_
           rintro xt w18 hx1 hx2 hx3
           have lz : w17.heap.size ≤ xt := hx3
           clear hx3
           have NB := Lib.hid hx1
           have Z := Lib.hid hx2
           have LZ2 := Lib.hid lz
           clear hx1 hx2 lz)
        | (with_reducible refine wpList_storeK (ty := 38) (cells := #[.int .i64 0, .bool false, .slice a4 1 c4, .int .i64 0]) rfl rfl NB.out ?_ ?_ ?_ ?_ ?_ ?_
           · rfl
           · rfl
           · kernel_rfl
           · rfl
           · simp [Value.oneCell']
           rintro w19 hb6 ho6
           have hx := Z.out.then_only ho6 (fun k (e : k = xt) => by rw [e]; exact LZ2.out)
           replace JB := Lib.hid (JB.out.ext hx)
           replace PB := Lib.hid (PB.out.ext hx)
           replace TB := Lib.hid (TB.out.ext hx)
           replace GB := Lib.hid (GB.out.ext hx)
           replace UB := Lib.hid (UB.out.ext hx)
           have x2 := X.out.tr hx
           have cp := PB.out.cell
           have cn := hb6.cell
           have cg := GB.out.cell
           clear Z ho6 NB X hx LZ2
           have NB := Lib.hid hb6
           have X := Lib.hid x2
           clear hb6 x2))
      -- Find again
      go_upto_region 19 with (
         go_at_call 10
         refine (ax_c6 _ (truths1 JB.out) UB.out (truths1 TB.out)).mono ?_
         rintro e w20 ⟨a5, c5, rfl, hx⟩
         clear cp cn cg
         replace JB := Lib.hid (JB.out.ext hx)
         replace PB := Lib.hid (PB.out.ext hx)
         replace TB := Lib.hid (TB.out.ext hx)
         replace GB := Lib.hid (GB.out.ext hx)
         replace UB := Lib.hid (UB.out.ext hx)
         replace NB := Lib.hid (NB.out.ext hx)
         have x2 := X.out.tr hx
         clear X hx
         have cp := PB.out.cell
         have X := Lib.hid x2
         clear x2)
      -- jammed
      go_upto_region 20 with (
         with_reducible refine wpList_setK (b := w.heap.size) (i := 0) (v := .bool true) rfl rfl JB.out ?_ ?_ ?_ ?_ ?_ ?_ ?_
         · rfl
         · rfl
         · simp
         · kernel_rfl
         · rfl
         · simp [Value.oneCell']
         rintro w21 hb ho
         have hb2 : Blk w21 w.heap.size #[.bool true] 4 := hb
         have pb2 := PB.out.only ho (fun e => NJ.out e.symm)
         have tb2 := TB.out.only ho (fun e => NTJ.out e.symm)
         have gb2 := GB.out.only ho (fun e => absurd (blk_ty GB.out (e ▸ JB.out)) (by decide))
         have nb2 := NB.out.only ho (fun e => absurd (blk_ty NB.out (e ▸ JB.out)) (by decide))
         have x2 := X.out.then_only ho (fun k (e : k = w.heap.size) => by rw [e]; exact Nat.le_refl _)
         have cp := pb2.cell
         have cn := nb2.cell
         have cg := gb2.cell
         have hun := UB.out.only ho (fun b hb e => HLO.out b hb e)
         clear JB PB TB GB NB X UB hb ho
         have JB := Lib.hid hb2
         have TB := Lib.hid tb2
         have X := Lib.hid x2
         have UB := Lib.hid hun
         clear hb2 tb2 x2 hun)
      go_wp2_with (
         go_at_call 10
         refine (ax_c7 _ (truths1 JB.out) UB.out (truths1 TB.out)).mono ?_
         rintro e w22 ⟨va, rfl, hx⟩
         have x2 := X.out.tr hx
         clear X hx
         have X := Lib.hid x2
         clear x2)
      go_ret
      exact ⟨rfl, X.out⟩
end Go.Proofs.YtojobdffnnibaaaGreat
