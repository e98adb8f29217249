/- fulfils, aimed. -/
import Derived.Test.YtojobdffnnibaaaPSit
import Derived.Test.YtojobdffnnibaaaPressPl
namespace Go.Proofs.Ytojobdffnnibaaa
open Go.RowKit
set_option linter.unusedVariables false
set_option linter.unusedSimpArgs false

theorem uFul (u : UnitD) (b : Bool) (w : World) : Calls Try.prog 73 #[uV u, .bool b] w fun e w' => e = .returned (.bool (u.pr == b)) ∧ Ext w w' := by
  obtain ⟨uo, ut, uc, up, ui⟩ := u
  unfold uV
  dsimp only
  go_enter Try.func73, Try.ntmps73
  go_wp2_with (
    with_reducible refine wpList_boxA (t := 50) (cs := #[.bool uo, .bool ut, .bool uc, .bool up, .int .i64 ui]) rfl rfl rfl ?_
    rintro xb w1 hx1 hx2 hx3
    have c1 := hx1.cell
    have X1 := Lib.hid hx2
    clear hx2
    clear hx3 hx1)
  go_ret
  exact ⟨rfl, X1.out⟩

theorem pr_step (us : List UnitD) (bs : List Bool) (k : Nat) (hk : k < us.length) (hb : k < bs.length) (h : (us.take k).map (·.pr) = bs.take k) (hp : us[k].pr = bs[k]) : (us.take (k + 1)).map (·.pr) = bs.take (k + 1) := by
  rw [List.take_succ_eq_append_getElem hk, List.take_succ_eq_append_getElem hb, List.map_append, h, List.map_singleton, hp]
theorem pr_bad (us : List UnitD) (bs : List Bool) (k : Nat) (hk : k < us.length) (hb : k < bs.length) (hp : us[k].pr ≠ bs[k]) : (us.map (·.pr) == bs) = false := by
  rw [beq_eq_false_iff_ne]
  intro h
  subst h
  simp at hp

set_option maxRecDepth 100000 in
set_option maxHeartbeats 2000000 in
theorem equalFunc_any (us : List UnitD) (bs : List Bool) (va vb : Value) (w : World) (ha : UnIn w va us) (hb : Truths w vb bs) :
    Calls Try.prog 72 #[va, vb, .func (.func 73) #[] #[]] w fun e w' => e = .returned (.bool (us.map (·.pr) == bs)) ∧ Ext w w' := by
  have hm1 := ha.1
  have hm2 := hb.1
  rw [List.length_map] at hm2
  obtain ⟨a, c, rfl, Ha⟩ := ha.form
  obtain ⟨_, a2, c2, hvb, _, hcb⟩ := hb
  rw [List.length_map] at hvb hcb
  subst hvb
  clear ha
  have HCB := Lib.hid hcb
  clear hcb
  go_enter Try.func72, Try.ntmps72
  by_cases hl : us.length = bs.length
  · have e0 : decide ((us.length:Int) = (bs.length:Int)) = true := decide_eq_true (by omega)
    have e1 : ((us.length:Int) == (bs.length:Int)) = true := by simp [hl]
    have e2 : ((us.length:Int) != (bs.length:Int)) = false := by simp [hl]
    have HL := Lib.hid hl
    clear hl
    go_upto_region 4 with (fail)
    go_loopw [17] (fun t wr => ∃ k : Nat, k ≤ us.length ∧ t = .int .i64 k ∧ Hid ((us.take k).map (·.pr) = bs.take k) ∧ Hid (Ext w wr)) (fun t _ => us.length - (intOf t).toNat)
    case atStart =>
      have h00 : (us.take 0).map (·.pr) = bs.take 0 := by simp
      exact ⟨0, Nat.zero_le _, rfl, h00, Below.refl _ _⟩
    case round =>
      obtain ⟨k, hk, rfl, HR, HW⟩ := hrel
      by_cases hlt : k < us.length
      · obtain ⟨b1, o1, rfl, hc1⟩ := Ha.out.cells (by omega)
        obtain ⟨b2, o2, rfl, hc2⟩ := HCB.out (by have := HL.out; omega)
        obtain ⟨d0, d1, d2, d3, d4⟩ := hc1 k hlt
        have hkb : k < bs.length := by rw [← HL.out]; exact hlt
        have d5 := hc2 k (.bool bs[k]) (by simp [hkb])
        have hst := pr_step us bs k hlt hkb HR.out
        have hbd := pr_bad us bs k hlt hkb
        obtain ⟨u, hu⟩ : ∃ u, us[k] = u := ⟨_, rfl⟩
        obtain ⟨bv, hbv⟩ : ∃ b, bs[k] = b := ⟨_, rfl⟩
        rw [hu] at d0 d1 d2 d3 d4 hst hbd
        rw [hbv] at d5 hst hbd
        clear hu hbv
        have hu1 := fun W => uFul u bv W
        obtain ⟨uo, ut, uc, up, ui⟩ := u
        unfold uV at hu1
        dsimp only at *
        obtain ⟨q, hq⟩ : ∃ q, (up == bv) = q := ⟨_, rfl⟩
        have hst2 : q = true → _ := fun e => hst (by simpa [e] using hq)
        have hbd2 : q = false → _ := fun e => hbd (by simpa [e] using hq)
        rw [hq] at hu1
        clear hq hst hbd
        have HU := fun W => Lib.hid (hu1 W)
        clear hu1
        have c0 := HW.out.cellSome d0
        have c1 := HW.out.cellSome d1
        have c2 := HW.out.cellSome d2
        have c3 := HW.out.cellSome d3
        have c4 := HW.out.cellSome d4
        have c5 := HW.out.cellSome d5
        clear hc1 hc2 d0 d1 d2 d3 d4 
        have i1 : (0:Int) ≤ (k:Int) := by omega
        have i2 : (k:Int) < (us.length:Int) := by omega
        have i3 : (k:Int) < (bs.length:Int) := by omega
        have ST := Lib.hid hst2
        have BD := Lib.hid hbd2
        have D5 := Lib.hid d5
        clear hst2 hbd2 d5
        clear e0 e1 e2
        cases q
        · skip
          go_wp2_with (first
            | (with_reducible refine wpList_allocA (t := 50) rfl rfl Try.zeroValue50 ?_
               rintro zb w1 hx1 hx2 hx3
               have x2 := HW.out.tr hx2
               have lz : w.heap.size ≤ zb := Nat.le_trans HW.out.size hx3
               have f0 := hx2.cellSome c0
               have f1 := hx2.cellSome c1
               have f2 := hx2.cellSome c2
               have f3 := hx2.cellSome c3
               have f4 := hx2.cellSome c4
               clear c0 c1 c2 c3 c4 c5 hx2 hx3
               have ZB := Lib.hid hx1
               have X1 := Lib.hid x2
               have LZ := Lib.hid lz
               clear hx1 x2 lz)
            | (with_reducible refine wpList_storeK (ty := 50) (cells := #[.bool uo, .bool ut, .bool uc, .bool up, .int .i64 ui]) rfl rfl ZB.out ?_ ?_ ?_ ?_ ?_ ?_
               · rfl
               · rfl
               · kernel_rfl
               · rfl
               · simp [Value.oneCell']
               rintro w2 hb2 ho2
               have x2 := X1.out.then_only ho2 (fun b (e : b = zb) => by rw [e]; exact LZ.out)
               have c5 := x2.cellSome D5.out
               have cz := hb2.cell
               clear X1 ZB f0 f1 f2 f3 f4 ho2
               have X1 := Lib.hid x2
               have ZB := Lib.hid hb2
               clear x2 hb2)
            | (refine (HU _).out.mono ?_
               rintro e w3 ⟨rfl, hx3⟩
               have x3 := X1.out.tr hx3
               clear X1 hx3 cz c5
               have X1 := Lib.hid x3
               clear x3))
          go_ret
          exact ⟨ret_bool (by rw [BD.out (by first | rfl | trivial)]), X1.out⟩
        · skip
          go_wp2_with (first
            | (with_reducible refine wpList_allocA (t := 50) rfl rfl Try.zeroValue50 ?_
               rintro zb w1 hx1 hx2 hx3
               have x2 := HW.out.tr hx2
               have lz : w.heap.size ≤ zb := Nat.le_trans HW.out.size hx3
               have f0 := hx2.cellSome c0
               have f1 := hx2.cellSome c1
               have f2 := hx2.cellSome c2
               have f3 := hx2.cellSome c3
               have f4 := hx2.cellSome c4
               clear c0 c1 c2 c3 c4 c5 hx2 hx3
               have ZB := Lib.hid hx1
               have X1 := Lib.hid x2
               have LZ := Lib.hid lz
               clear hx1 x2 lz)
            | (with_reducible refine wpList_storeK (ty := 50) (cells := #[.bool uo, .bool ut, .bool uc, .bool up, .int .i64 ui]) rfl rfl ZB.out ?_ ?_ ?_ ?_ ?_ ?_
               · rfl
               · rfl
               · kernel_rfl
               · rfl
               · simp [Value.oneCell']
               rintro w2 hb2 ho2
               have x2 := X1.out.then_only ho2 (fun b (e : b = zb) => by rw [e]; exact LZ.out)
               have c5 := x2.cellSome D5.out
               have cz := hb2.cell
               clear X1 ZB f0 f1 f2 f3 f4 ho2
               have X1 := Lib.hid x2
               have ZB := Lib.hid hb2
               clear x2 hb2)
            | (refine (HU _).out.mono ?_
               rintro e w3 ⟨rfl, hx3⟩
               have x3 := X1.out.tr hx3
               clear X1 hx3 cz c5
               have X1 := Lib.hid x3
               clear x3))
          go_roundw
          case rel => exact ⟨k + 1, by omega, by go_num, ST.out (by first | rfl | trivial), X1⟩
          case measure => first | (simp [intOf]; done) | (simp [intOf]; omega)
      · have i2 : decide ((k:Int) < (us.length:Int)) = false := decide_eq_false (by omega)
        have hend : (us.map (·.pr) == bs) = true := by
          have h1 := HR.out
          rw [List.take_of_length_le (by omega), List.take_of_length_le (by have := HL.out; omega)] at h1
          simpa using h1
        have HEND := Lib.hid hend
        clear hend
        go_wp2
        go_ret
        exact ⟨ret_bool (by rw [HEND.out]), HW.out⟩
  · have e0 : decide ((us.length:Int) = (bs.length:Int)) = false := decide_eq_false (by omega)
    have e1 : ((us.length:Int) == (bs.length:Int)) = false := by simp; omega
    have e2 : ((us.length:Int) != (bs.length:Int)) = true := by simp; omega
    have hend : (us.map (·.pr) == bs) = false := by
      rw [beq_eq_false_iff_ne]
      intro h
      apply hl
      rw [← h, List.length_map]
    have HEND := Lib.hid hend
    clear hend
    go_wp2
    go_ret
    exact ⟨ret_bool (by rw [HEND.out]), Below.refl _ _⟩

/-- A goal as a value. -/
def gV (vg : Value) (g : GoalD) : Value := .agg #[.int .i64 g.drive, vg]

set_option maxRecDepth 100000 in
set_option maxHeartbeats 2000000 in
theorem fulfils_any {B : Nat} {mb pb ub c : Nat} {p : PressD} {s : StD} {vj vg : Value} {g : GoalD} (w : World) (h : MOw B w mb pb ub c p s vj) (hl : s.units.length ≤ 1000000) (hg : Truths w vg g.pressed) :
    Calls Try.prog 53 #[.pointer (some ⟨mb, 0, none⟩), gV vg g] w fun e w' => e = .returned (.bool (fulD g s)) ∧ Ext w w' := by
  have hun := h.un (Nat.le_trans hl (by decide))
  have heq := fun W (k : Ext w W) => equalFunc_any s.units g.pressed _ vg W (hun.ext k) (Sl.ext hg k)
  obtain ⟨_, ag, cg, hvg, _⟩ := hg
  obtain ⟨gd, gp⟩ := g
  unfold gV
  dsimp only at *
  obtain ⟨em, hem⟩ : ∃ b, (s.units.map (·.pr) == gp) = b := ⟨_, rfl⟩
  rw [hem] at heq
  have hful : fulD ⟨gd, gp⟩ s = ((s.drive == gd) && em) := by unfold fulD; rw [hem]
  obtain ⟨dr, hdr⟩ : ∃ d, s.drive = d := ⟨_, rfl⟩
  have hbm := h.bm
  rw [hdr] at hbm hful
  rw [List.length_map] at hvg
  subst hvg
  clear hem h hun
  have HEQ := Lib.hid heq
  have HF := Lib.hid hful
  have BM := Lib.hid hbm
  clear heq hful hbm
  go_enter Try.func53, Try.ntmps53
  go_upto_region 1 with (
    with_reducible refine wpList_boxA (t := 69) (cs := #[.int .i64 gd, .slice ag gp.length cg]) rfl rfl rfl ?_
    rintro xb w1 hx1 hx2 hx3
    have XB := Lib.hid hx1
    have X1 := Lib.hid hx2
    clear hx1 hx2
    clear hx3)
  by_cases hd : dr = gd
  · subst hd
    have e0 : (dr == dr) = true := by simp
    have d := (BM.out.ext X1.out).cell
    have dx := XB.out.cell
    have hS : ∀ W, Ext w1 W → ((∀ j, W.cell? ⟨mb, j, none⟩ = (#[.pointer (some ⟨pb, 0, none⟩), .int .i64 dr, .bool s.folder, .slice (some ⟨ub, 0, none⟩) s.units.length c, .int .i64 s.fresh] : Array Value)[j]?) ∧ (∀ j, W.cell? ⟨xb, j, none⟩ = (#[.int .i64 dr, .slice ag gp.length cg] : Array Value)[j]?)) := fun W hx => ⟨(BM.out.ext (X1.out.tr hx)).cell, (XB.out.ext hx).cell⟩
    clear d dx
    go_region_held3 (fun wx => (∀ j, wx.cell? ⟨mb, j, none⟩ = (#[.pointer (some ⟨pb, 0, none⟩), .int .i64 dr, .bool s.folder, .slice (some ⟨ub, 0, none⟩) s.units.length c, .int .i64 s.fresh] : Array Value)[j]?) ∧ (∀ j, wx.cell? ⟨xb, j, none⟩ = (#[.int .i64 dr, .slice ag gp.length cg] : Array Value)[j]?))
      ((first | exact hS _ (Below.refl _ w1).drew | exact hS _ XW.out))
      ((first
        | (have hgd := HEQ.out
           go_at_call 72
           refine (hgd _ (X1.out.tr (Below.refl _ w1).drew)).mono ?_
           rintro e w2 ⟨rfl, hx⟩
           have xw : Ext w1 w2 := Ext.tr (Below.refl _ w1).drew hx
           clear HEQ hgd
           have XW := Lib.hid xw
           clear xw)))
    go_wp2
    go_ret
    exact ⟨ret_bool (by rw [HF.out]; simp), X1.out.tr XW.out⟩
  · have e0 : (dr == gd) = false := by simpa using hd
    have d := (BM.out.ext X1.out).cell
    have dx := XB.out.cell
    go_quiet (fail)
    have xq := X1.out.tr (Ext.of_drewN w1 nq)
    generalize w1.drewN nq = wq at *
    have XQ := Lib.hid xq
    clear xq
    go_wp2
    go_ret
    exact ⟨ret_bool (by rw [HF.out, e0]; rfl), XQ.out⟩

theorem find1_any {B : Nat} {mb pb ub c xb : Nat} {p : PressD} {s : StD} {vj vg : Value} {g : GoalD} (w : World) (h : MOw B w mb pb ub c p s vj) (hl : s.units.length ≤ 1000000) (hg : Truths w vg g.pressed) (hx : Blk w xb #[.int .i64 g.drive, vg] 69) :
    Calls Try.prog 52 #[.pointer (some ⟨mb, 0, none⟩), .pointer (some ⟨xb, 0, none⟩)] w fun e w' => e = .returned (.bool (fulD g s)) ∧ Ext w w' := by
  have hc := fulfils_any w h hl hg
  obtain ⟨_, ag, cg, hvg, _⟩ := hg
  rw [List.length_map] at hvg
  subst hvg
  unfold gV at hc
  have d := hx.cell
  have HC := Lib.hid hc
  clear hc
  clear h hx
  go_enter Try.func52, Try.ntmps52
  go_wp2_with (
    go_at_call 53
    refine HC.out.mono ?_
    rintro e w2 ⟨rfl, hx⟩
    clear d
    have XW := Lib.hid hx
    clear hx)
  go_ret
  exact ⟨rfl, XW.out⟩

set_option maxRecDepth 100000 in
set_option maxHeartbeats 2000000 in
theorem aimed_any {B : Nat} {mb pb ub c : Nat} {p : PressD} {s : StD} {vj vg : Value} {g : GoalD} (w : World) (h : MOw B w mb pb ub c p s vj) (hl : s.units.length ≤ 1000000) (hg : Truths w vg g.pressed) :
    Calls Try.prog 50 #[.pointer (some ⟨mb, 0, none⟩), gV vg g] w fun e w' => e = .returned (.int .i64 (if aimedD s g then 0 else 1)) ∧ Ext w w' := by
  obtain ⟨_, ag, cg, hvg, _⟩ := hg
  rw [List.length_map] at hvg
  subst hvg
  obtain ⟨gd, gp⟩ := g
  unfold gV
  dsimp only at *
  obtain ⟨b1, hb1⟩ : ∃ b, inB gd 0 2 = b := ⟨_, rfl⟩
  have hai : aimedD s ⟨gd, gp⟩ = ((gp.length == s.units.length) && b1) := by rw [← hb1]; rfl
  obtain ⟨L, hL⟩ : ∃ L, s.units.length = L := ⟨_, rfl⟩
  have hbm := h.bm
  rw [hL] at hbm hai hl
  clear h hL
  have hin : ∀ (W : World), Calls Try.prog 44 #[.int .i64 gd, .int .i64 0, .int .i64 2] W fun e w' => e = .returned (.bool b1) ∧ w' = W := fun W =>
    (in_any gd 0 2 W).mono fun e w' ⟨a, b⟩ => ⟨by rw [a, hb1], b.symm⟩
  obtain ⟨E, hE⟩ : ∃ E, (if aimedD s ⟨gd, gp⟩ then (0:Int) else 1) = E := ⟨_, rfl⟩
  rw [hE]
  rw [hai] at hE
  have HIN := Lib.hid hin
  have HA := Lib.hid hE
  have BM := Lib.hid hbm
  clear hin hE hbm
  clear hai
  clear hb1
  go_enter Try.func50, Try.ntmps50
  go_upto_region 1 with (
    with_reducible refine wpList_boxA (t := 69) (cs := #[.int .i64 gd, .slice ag gp.length cg]) rfl rfl rfl ?_
    rintro xb w1 hx1 hx2 hx3
    have XB := Lib.hid hx1
    have X1 := Lib.hid hx2
    clear hx1 hx2
    clear hx3)
  have d := (BM.out.ext X1.out).cell
  have dx := XB.out.cell
  by_cases hd : gp.length = L
  · have e0 : decide ((gp.length:Int) = (L:Int)) = true := decide_eq_true (by omega)
    have e1 : ((gp.length:Int) == (L:Int)) = true := by simp [hd]
    have e2 : ((gp.length:Int) != (L:Int)) = false := by simp [hd]
    have e3 : (if b1 then (0:Int) else 1) = E := by rw [← HA.out, hd]; simp
    have HE := Lib.hid e3
    clear e3
    clear hd
    go_quiet ((go_at_call 44; exact Calls.quiet_of_same (HIN.out _)))
    have xq := X1.out.tr (Ext.of_drewN w1 nq)
    generalize w1.drewN nq = wq at *
    have XQ := Lib.hid xq
    clear xq
    cases b1
    all_goals
      go_wp2
      go_ret
      exact ⟨ret_int HE.out, XQ.out⟩
  · have e0 : decide ((gp.length:Int) = (L:Int)) = false := decide_eq_false (by omega)
    have e1 : ((gp.length:Int) == (L:Int)) = false := by simp; omega
    have e2 : ((gp.length:Int) != (L:Int)) = true := by simp; omega
    have e3 : (1:Int) = E := by
      have : (gp.length == L) = false := by simpa using hd
      rw [← HA.out, this]; rfl
    have HE := Lib.hid e3
    clear e3
    clear hd
    go_quiet (fail)
    have xq := X1.out.tr (Ext.of_drewN w1 nq)
    generalize w1.drewN nq = wq at *
    have XQ := Lib.hid xq
    clear xq
    go_wp2
    go_ret
    exact ⟨ret_int HE.out, XQ.out⟩
end Go.Proofs.Ytojobdffnnibaaa
