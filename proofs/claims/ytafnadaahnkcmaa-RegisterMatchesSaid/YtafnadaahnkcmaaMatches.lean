/- RegisterMatches: the walk. -/
import Derived.Test.YtafnadaahnkcmaaRefM
namespace Go.Proofs.Ytafnadaahnkcmaa
open Go.RowKit
set_option linter.unusedVariables false

/-- TopPost in one form: the value and what it is. -/
theorem TopPost.one {w w' : World} {pat seen : List Int} {win : Int} {e : Ending} (h : TopPost w pat seen win e w') :
    ∃ xs v, e = .returned (.tuple #[.agg #[.int .i64 (if matchErr pat seen win = 0 then (bestS (cntF pat seen win) (shs 2001)).1 else 0), .int .i64 (if matchErr pat seen win = 0 then (bestS (cntF pat seen win) (shs 2001)).2 else 0), v], .int .i64 (matchErr pat seen win)]) ∧
      xs = (if matchErr pat seen win = 0 then fitL pat seen win (bestS (cntF pat seen win) (shs 2001)).1 else []) ∧ (∃ a c, v = .slice a xs.length c) ∧ Ints w' v xs ∧ Ext w w' := by
  obtain ⟨⟨er, h1, h2, rfl⟩ | ⟨h1, v, rfl, hown⟩, hx⟩ := h
  · subst h1
    refine ⟨[], .slice none 0 0, by rw [if_neg h2, if_neg h2], by rw [if_neg h2], ⟨none, 0, rfl⟩, Sl.nil w', hx⟩
  · have hi : Ints w' v (fitL pat seen win (bestS (cntF pat seen win) (shs 2001)).1) := Sl.of_owns hown
    obtain ⟨a, c, hv, _⟩ := hi.form
    exact ⟨_, v, by rw [if_pos h1, if_pos h1, h1], by rw [if_pos h1], ⟨a, c, hv⟩, hi, hx⟩

set_option maxRecDepth 100000 in
set_option maxHeartbeats 8000000 in
theorem matches_true (pat seen : List Int) (ap as_ : Option Addr) (cp cs : Nat) (win : Int) (w : World) (hp : Ints w (.slice ap pat.length cp) pat) (hs : Ints w (.slice as_ seen.length cs) seen)
    (hpb : ∀ x ∈ pat, I64 x) (hw : I64 win) (hsb : ∀ x ∈ seen, I64 x) :
    Calls Try.prog 3 #[.slice ap pat.length cp, .int .i64 win, .slice as_ seen.length cs] w fun e w' => e = .returned (.bool true) ∧ Ext w w' := by
  have HP := Lib.hid hp
  have HS := Lib.hid hs
  have HPB := Lib.hid hpb
  have HSB := Lib.hid hsb
  have HW := Lib.hid hw
  have hplen := hp.len
  have hslen := hs.len
  clear hp hs hpb hw hsb
  go_enter Try.func3, Try.ntmps3
  by_cases a1 : 20 < pat.length
  · have d1 : decide ((20:Int) < (pat.length:Int)) = true := decide_eq_true (by omega)
    go_wp2_with (go_at_call 9; refine (awake_true _).mono ?_; rintro x w4 ⟨rfl, hx4⟩; have HX4 := Lib.hid hx4; clear hx4)
    go_ret
    exact ⟨rfl, HX4.out⟩
  have d1 : decide ((20:Int) < (pat.length:Int)) = false := decide_eq_false (by omega)
  by_cases a2 : 60 < seen.length
  · have d2 : decide ((60:Int) < (seen.length:Int)) = true := decide_eq_true (by omega)
    go_wp2_with (go_at_call 9; refine (awake_true _).mono ?_; rintro x w4 ⟨rfl, hx4⟩; have HX4 := Lib.hid hx4; clear hx4)
    go_ret
    exact ⟨rfl, HX4.out⟩
  have d2 : decide ((60:Int) < (seen.length:Int)) = false := decide_eq_false (by omega)
  obtain ⟨er, her⟩ : ∃ er, er = matchErr pat seen win := ⟨_, rfl⟩
  obtain ⟨s0, hs0⟩ : ∃ s0, s0 = (if matchErr pat seen win = 0 then (bestS (cntF pat seen win) (shs 2001)).1 else 0) := ⟨_, rfl⟩
  obtain ⟨s1, hs1⟩ : ∃ s1, s1 = (if matchErr pat seen win = 0 then (bestS (cntF pat seen win) (shs 2001)).2 else 0) := ⟨_, rfl⟩
  obtain ⟨fl, hfl⟩ : ∃ fl, fl = (if matchErr pat seen win = 0 then fitL pat seen win (bestS (cntF pat seen win) (shs 2001)).1 else []) := ⟨_, rfl⟩
  have HMT : Hid (∀ (w1 : World) (a b : Option Addr) (c d : Nat), Ints w1 (.slice a pat.length c) pat → Ints w1 (.slice b seen.length d) seen →
      Calls Try.prog 11 #[.slice a pat.length c, .int .i64 win, .slice b seen.length d] w1 fun e w' => ∃ a c, e = .returned (.tuple #[.agg #[.int .i64 s0, .int .i64 s1, .slice a fl.length c], .int .i64 er]) ∧ Ints w' (.slice a fl.length c) fl ∧ Ext w1 w') := fun w1 a b c d h1 h2 =>
    (matchTop_any pat seen a b c d win w1 h1 h2 HPB.out HW.out HSB.out).mono fun e w' h => by
      obtain ⟨xs, v, he, hxs, ⟨a, c, rfl⟩, hi, hx⟩ := h.one
      rw [← hfl] at hxs
      subst hxs
      exact ⟨a, c, by rw [he, hs0, hs1, her], hi, hx⟩
  have HRM : Hid (∀ (w1 : World) (a b : Option Addr) (c d : Nat), Ints w1 (.slice a pat.length c) pat → Ints w1 (.slice b seen.length d) seen →
      Calls Try.prog 12 #[.slice a pat.length c, .int .i64 win, .slice b seen.length d] w1 fun e w' => ∃ a c, e = .returned (.tuple #[.agg #[.int .i64 s0, .int .i64 s1, .slice a fl.length c], .int .i64 er]) ∧ Ints w' (.slice a fl.length c) fl ∧ Ext w1 w') := fun w1 a b c d h1 h2 =>
    (refMatch_any pat seen a b c d win w1 h1 h2 HPB.out HW.out HSB.out).mono fun e w' h => by
      obtain ⟨xs, v, he, hxs, ⟨a, c, rfl⟩, hi, hx⟩ := h.one
      rw [← hfl] at hxs
      subst hxs
      exact ⟨a, c, by rw [he, hs0, hs1, her], hi, hx⟩
  clear her hs0 hs1 hfl
  go_upto_region 6 with (first
    | (have hgd := HSB.out
       go_at_call 10
       refine (copyInts_any pat _ w HP.out (by omega)).mono ?_
       rintro e w1 ⟨vp, rfl, hx1, ho1⟩
       have hi1 : Ints w1 vp pat := Sl.of_owns ho1
       obtain ⟨a1', c1', rfl, HI1⟩ := hi1.form
       have HX1 := Lib.hid hx1
       clear hx1 ho1 hi1 HSB hgd)
    | (have hgd := HX1.out
       go_at_call 10
       refine (copyInts_any seen _ w1 (HS.out.ext HX1.out) (by omega)).mono ?_
       rintro e w2 ⟨vs, rfl, hx2, ho2⟩
       have hi2 : Ints w2 vs seen := Sl.of_owns ho2
       obtain ⟨a2', c2', rfl, HI2⟩ := hi2.form
       have HJ2 := Lib.hid (HI1.out.ext hx2)
       have HX2 := Lib.hid (HX1.out.tr hx2)
       clear hx2 ho2 hi2 HX1 hgd)
    | (go_at_call 11
       refine (HMT.out w2 _ _ _ _ HJ2.out HI2.out).mono ?_
       rintro e w3 ⟨a3, c3, rfl, hi3, hx3⟩
       have HX3 := Lib.hid (HX2.out.tr hx3)
       have HP3 := Lib.hid (HJ2.out.ext hx3)
       have HS3 := Lib.hid (HI2.out.ext hx3)
       have HF3 := Lib.hid hi3
       clear hi3 hx3)
    | (with_reducible refine wpList_alloc (o := ⟨some 9, _, _, _, _, _⟩) rfl rfl Try.zeroValue26 ?_
       rintro fb w4 ⟨hb4, hx4, hl4⟩
       have HB4 := Lib.hid hb4
       have G4 := Lib.hid hx4
       have L4 := Lib.hid hl4
       clear hb4 hx4 hl4)
    | (with_reducible refine wpList_storeB (b := fb) (cells := #[.int .i64 s0, .int .i64 s1, .slice a3 fl.length c3]) rfl rfl ?_ ?_ HB4.out ?_ ?_ ?_ ?_
       · rfl
       · rfl
       · kernel_rfl
       · rfl
       · simp [Value.oneCell']
       rintro w5 hb5 ho5
       have hx5 : Ext w3 w5 := G4.out.then_only ho5 (fun k (e : k = fb) => by have := L4.out; omega)
       have HB5 := Lib.hid hb5
       have HX5 := Lib.hid (HX3.out.tr hx5)
       have HP5 := Lib.hid (HP3.out.ext hx5)
       have HS5 := Lib.hid (HS3.out.ext hx5)
       have HF5 := Lib.hid (HF3.out.ext hx5)
       clear hb5 ho5 hx5)
    | (go_at_call 12
       refine (HRM.out w5 _ _ _ _ (HP.out.ext HX5.out) (HS.out.ext HX5.out)).mono ?_
       rintro e w6 ⟨a6, c6, rfl, hi6, hx6⟩
       have HB6 := Lib.hid (hx6.blk HB5.out)
       have HX6 := Lib.hid (HX5.out.tr hx6)
       have HP6 := Lib.hid (HP5.out.ext hx6)
       have HS6 := Lib.hid (HS5.out.ext hx6)
       have HF6 := Lib.hid (HF5.out.ext hx6)
       have HR6 := Lib.hid hi6
       clear hi6 hx6)
    | (with_reducible refine wpList_alloc (o := ⟨some 11, _, _, _, _, _⟩) rfl rfl Try.zeroValue30 ?_
       rintro rb w7 ⟨hb7, hx7, hl7⟩
       have HB7 := Lib.hid hb7
       have G7 := Lib.hid hx7
       have L7 := Lib.hid hl7
       clear hb7 hx7 hl7)
    | (with_reducible refine wpList_storeB (b := rb) (cells := #[.int .i64 s0, .int .i64 s1, .slice a6 fl.length c6]) rfl rfl ?_ ?_ HB7.out ?_ ?_ ?_ ?_
       · rfl
       · rfl
       · kernel_rfl
       · rfl
       · simp [Value.oneCell']
       rintro w8 hb8 ho8
       have hx8 : Ext w6 w8 := G7.out.then_only ho8 (fun k (e : k = rb) => by have := L7.out; omega)
       have HB8 := Lib.hid hb8
       have HC8 := Lib.hid (hx8.blk HB6.out)
       have HX8 := Lib.hid (HX6.out.tr hx8)
       have HP8 := Lib.hid (HP6.out.ext hx8)
       have HS8 := Lib.hid (HS6.out.ext hx8)
       have HF8 := Lib.hid (HF6.out.ext hx8)
       have HR8 := Lib.hid (HR6.out.ext hx8)
       clear hb8 ho8 hx8))
  have cF : ∀ i, w8.cell? ⟨fb, i, none⟩ = (#[.int .i64 s0, .int .i64 s1, .slice a3 fl.length c3] : Array Value)[i]? := blk_cell HC8.out
  have cR : ∀ i, w8.cell? ⟨rb, i, none⟩ = (#[.int .i64 s0, .int .i64 s1, .slice a6 fl.length c6] : Array Value)[i]? := blk_cell HB8.out
  go_wp2_with (first
    | (have hgd := HR8.out
       go_at_call 13
       refine (sameInts_any fl fl _ _ w8 HF8.out HR8.out).mono ?_
       rintro e w9 ⟨rfl, n9, hn9⟩
       have hx9 : Ext w8 w9 := by rw [hn9]; exact Ext.of_drewN _ _
       have HX9 := Lib.hid (HX8.out.tr hx9)
       have HP9 := Lib.hid (HP8.out.ext hx9)
       have HS9 := Lib.hid (HS8.out.ext hx9)
       clear hn9 hx9 HR8 hgd)
    | (have hgd := HP9.out
       go_at_call 13
       refine (sameInts_any pat pat _ _ w9 HP9.out (HP.out.ext HX9.out)).mono ?_
       rintro e w10 ⟨rfl, n10, hn10⟩
       have hx10 : Ext w9 w10 := by rw [hn10]; exact Ext.of_drewN _ _
       have HX10 := Lib.hid (HX9.out.tr hx10)
       have HS10 := Lib.hid (HS9.out.ext hx10)
       clear hn10 hx10 HP9 hgd)
    | (have hgd := HS10.out
       go_at_call 13
       refine (sameInts_any seen seen _ _ w10 HS10.out (HS.out.ext HX10.out)).mono ?_
       rintro e w11 ⟨rfl, n11, hn11⟩
       have hx11 : Ext w10 w11 := by rw [hn11]; exact Ext.of_drewN _ _
       have HX11 := Lib.hid (HX10.out.tr hx11)
       clear hn11 hx11 HS10 hgd)
    | (go_at_call 9; refine (awake_true _).mono ?_; rintro x w12 ⟨rfl, hx12⟩; have HX12 := Lib.hid (HX11.out.tr hx12); clear hx12))
  go_ret
  exact ⟨rfl, HX12.out⟩
end Go.Proofs.Ytafnadaahnkcmaa
