/- Share of the program. -/
import Derived.Test.YtekplfbfkfiabaaPlainSh
import Derived.Test.YtekplfbfkfiabaaStbD
import Derived.Deep.CutRange
namespace Go.Proofs.Ytekplfbfkfiabaa
open Go.RowKit
set_option linter.unusedVariables false
set_option linter.unusedSimpArgs false

theorem cmpS_key (t : Int) (ws : List Int) (S x y : Int) : cmpS t ws S x y < 0 ↔ - remS t ws S x < - remS t ws S y := by
  unfold cmpS cmpI
  split
  · omega
  · split <;> omega
theorem ixs_up (n : Nat) : (ixs n).Pairwise (· < ·) := by
  unfold ixs
  rw [List.pairwise_map]
  exact List.pairwise_lt_range.imp (fun h => by omega)
def SharePost (w : World) (t : Int) (ws : List Int) (e : Ending) (w' : World) : Prop :=
  ∃ v, e = .returned (.tuple #[v, .int .i64 (shareE t ws)]) ∧ Ext w w' ∧ Ints w' v (shareV t ws)

set_option maxRecDepth 100000 in
set_option maxHeartbeats 8000000 in
theorem share_any (t : Int) (ws : List Int) (vw : Value) (w : World) (hv : Ints w vw ws) (ht : I64 t) (hu : ∀ u ∈ ws, I64 u) (hl : ws.length ≤ 1000) :
    Calls Try.prog 16 #[.int .i64 t, vw] w (SharePost w t ws) := by
  have hp : ∀ e w', SharePost w t ws e w' → SharePost w t ws e w' := fun _ _ h => h
  obtain ⟨er, her⟩ : ∃ er, er = shareE t ws := ⟨_, rfl⟩
  have hw := shareE_ways t ws
  rw [← her] at hw
  obtain ⟨aw, cw, rfl, HV⟩ := hv.form
  have HP := Lib.hid hp
  have HE := Lib.hid her
  have HW := Lib.hid hw
  have HU := Lib.hid hu
  clear hp her hw hu
  clear hv
  go_enter Try.func16, Try.ntmps16
  go_upto_region 3 with (first
    | (with_reducible refine wpList_box1 (v := .int .i64 t) rfl rfl rfl rfl ?_
       rintro tb w1 hb1 hx1 hl1
       have TB := Lib.hid hb1
       have X := Lib.hid hx1
       have LT := Lib.hid hl1
       clear hb1 hx1 hl1)
    | (with_reducible refine wpList_box1 (v := .slice aw ws.length cw) rfl rfl rfl rfl ?_
       rintro wb w2 hb2 hx2 hl2
       have ntw := Nat.lt_of_lt_of_le TB.out.lt hl2
       have lw := Nat.le_trans X.out.size hl2
       replace TB := Lib.hid (TB.out.ext hx2)
       replace X := Lib.hid (X.out.ext hx2)
       have WB := Lib.hid hb2
       have NTW := Lib.hid ntw
       have LW := Lib.hid lw
       clear hb2 ntw lw
       clear hl2 hx2)
    | (with_reducible refine wpList_alloc1 rfl rfl Try.zeroValue3 rfl ?_
       rintro sb w3 hb3 hx3 hl3
       have nws := Nat.lt_of_lt_of_le WB.out.lt hl3
       have ls := Nat.le_trans X.out.size hl3
       replace TB := Lib.hid (TB.out.ext hx3)
       replace WB := Lib.hid (WB.out.ext hx3)
       replace X := Lib.hid (X.out.ext hx3)
       have SB := Lib.hid hb3
       have NWS := Lib.hid nws
       have LS := Lib.hid ls
       clear hb3 nws ls
       clear hl3 hx3)
    | (with_reducible refine wpList_setK (i := 0) (v := .int .i64 0) rfl rfl SB.out ?_ ?_ ?_ ?_ ?_ ?_ ?_
       · rfl
       · rfl
       · show 0 < 1; omega
       · kernel_rfl
       · rfl
       · rfl
       rintro w4 hb4 ho4
       have hb5 : Blk w4 sb #[.int .i64 (sumW [])] 3 := hb4
       have ntw := NTW.out
       have nws := NWS.out
       have tb4 := TB.out.only ho4 (by omega)
       have wb4 := WB.out.only ho4 (by omega)
       have hx4 := X.out.then_only ho4 (fun k (e : k = sb) => by rw [e]; exact LS.out)
       have wc0 := wb4.cell 0
       clear SB X TB WB ntw nws hb4 ho4
       have SB := Lib.hid hb5
       have X := Lib.hid hx4
       have TB := Lib.hid tb4
       have WB := Lib.hid wb4
       clear hb5 hx4 tb4 wb4))
  go_loopw [18] (fun s wr => ∃ k : Nat, k ≤ ws.length ∧ s = .int .i64 k ∧ Hid (Blk wr tb #[.int .i64 t] 3 ∧ Blk wr wb #[.slice aw ws.length cw] 22 ∧ Blk wr sb #[.int .i64 (sumW (ws.take k))] 3 ∧ Ext w wr)) (fun s _ => ws.length - (intOf s).toNat)
  case atStart => exact ⟨0, Nat.zero_le _, rfl, TB.out, WB.out, SB.out, X.out⟩
  case round =>
    clear TB WB SB X wc0
    obtain ⟨k, hk, rfl, HR⟩ := hrel
    obtain ⟨htb, hwb, hsb, hx⟩ := HR.out
    have t0 := htb.cell 0
    have wc0 := hwb.cell 0
    have s0 := hsb.cell 0
    by_cases hlt : k < ws.length
    · obtain ⟨b, o, rfl, hc⟩ := HV.out.cells (by omega)
      have c0 := hx.cellSome (hc k hlt)
      have hst := sumW_take ws k hlt
      have hr1 := sumW_range (ws.take k)
      rw [List.length_take, Nat.min_eq_left hk] at hr1
      obtain ⟨u, hu2⟩ : ∃ u, u = ws[k] := ⟨_, rfl⟩
      rw [← hu2] at c0 hst
      obtain ⟨s1, hs1⟩ : ∃ s, s = sumW (ws.take k) := ⟨_, rfl⟩
      rw [← hs1] at s0 hst hr1
      have hsb2 : Blk wr sb #[.int .i64 s1] 3 := by rw [hs1]; exact hsb
      have j1 : (0:Int) ≤ (k:Int) := by omega
      have j2 : (k:Int) < (ws.length:Int) := by omega
      have TB := Lib.hid htb
      have WB := Lib.hid hwb
      have SB := Lib.hid hsb2
      have X := Lib.hid hx
      clear htb hwb hsb2 hx
      clear HR hsb hc hu2
      by_cases hin : 0 ≤ u ∧ u ≤ 1000000
      · have hiw : inW u = true := (nIn_iff u 0 1000000).2 hin
        rw [if_pos hiw] at hst
        have HIN := Lib.hid hin
        obtain ⟨hin1, hin2⟩ := hin
        have HWR := Lib.hid (show IntKind.i64.wrap (s1 + u) = sumW (ws.take (k + 1)) by rw [hst]; exact i64_eq _ ⟨by omega, by omega⟩)
        have s1a := hr1.1
        have s1b : s1 ≤ 1000000000 := by omega
        clear hiw hst hs1 hr1
        go_wp2_with (first
          | (go_at_call 52; refine (in_true _ _ _ _ HIN.out).mono ?_; rintro e w' ⟨rfl, rfl⟩)
          | (with_reducible refine wpList_setK (i := 0) (v := .int .i64 (s1 + u)) rfl rfl SB.out ?_ ?_ ?_ ?_ ?_ ?_ ?_
             · rfl
             · rfl
             · show 0 < 1; omega
             · kernel_rfl
             · rfl
             · rfl
             rintro w4 hb4 ho4
             have e1 : s1 + u = sumW (ws.take (k + 1)) := by rw [← HWR.out]; exact (i64_eq _ ⟨by omega, by omega⟩).symm
             have hb5 : Blk w4 sb #[.int .i64 (s1 + u)] 3 := hb4
             rw [e1] at hb5
             have ntw := NTW.out
             have nws := NWS.out
             have tb4 := TB.out.only ho4 (by omega)
             have wb4 := WB.out.only ho4 (by omega)
             have hx4 := X.out.then_only ho4 (fun k (e : k = sb) => by rw [e]; exact LS.out)
             clear SB X TB WB ntw nws hb4 ho4 e1 HWR
             have SB := Lib.hid hb5
             have X := Lib.hid hx4
             have TB := Lib.hid tb4
             have WB := Lib.hid wb4
             clear hb5 hx4 tb4 wb4))
        go_roundw
        case rel => exact ⟨k + 1, by omega, by go_num, TB.out, WB.out, SB.out, X.out⟩
        case measure => simp [intOf]; omega
      · have hiw : inW u = false := by unfold inW; rw [Bool.eq_false_iff]; intro hh; exact hin ((nIn_iff u 0 1000000).1 hh)
        rw [if_neg (by rw [hiw]; decide)] at hst
        have HIN := Lib.hid hin
        have HST := Lib.hid (show sumW (ws.take (k + 1)) = s1 by rw [hst]; omega)
        clear hiw hst hs1 hr1 hin
        go_wp2_with (go_at_call 52; refine (in_false _ _ _ _ HIN.out).mono ?_; rintro e w' ⟨rfl, rfl⟩)
        go_roundw
        case rel => exact ⟨k + 1, by omega, by go_num, TB.out, WB.out, by rw [HST.out]; exact SB.out, X.out⟩
        case measure => simp [intOf]; omega
    · obtain rfl : k = ws.length := by omega
      rw [List.take_length] at hsb s0
      have TB := Lib.hid htb
      have WB := Lib.hid hwb
      have SB := Lib.hid hsb
      have X := Lib.hid hx
      clear htb hwb hsb hx
      clear HR hlt
      have hr1 := sumW_range ws
      obtain ⟨S, hS⟩ : ∃ S, S = sumW ws := ⟨_, rfl⟩
      rw [← hS] at s0 hr1
      have HS := Lib.hid hS
      clear hS
      rcases HW.out with ⟨q1, her2⟩ | ⟨q1, hw2⟩
      case inl =>
        have HER := Lib.hid her2
        clear her2
        go_wp2_with (go_at_call 52; refine (in_false _ _ _ _ (by clear HW; omega)).mono ?_; rintro e w' ⟨rfl, rfl⟩)
        go_ret2
        exact HP.out _ _ ⟨.slice none 0 0, by rw [← HE.out, HER.out]; rfl, X.out, by unfold shareV; rw [if_neg (by rw [← HE.out, HER.out]; decide)]; exact Sl.nil _⟩
      case inr =>
      have Q1 := Lib.hid (show 1 ≤ (ws.length : Int) ∧ (ws.length : Int) ≤ 100 by omega)
      have q1b : ws.length ≤ 100 := q1.2
      have hvr := HV.out.ext X.out
      have HCT := Lib.hid (containsI_any ws _ 54 (fun u => !nIn u 0 1000000) wr hvr (fun a w => by simp [go_sem]) badW_any)
      clear hvr
      rcases hw2 with ⟨q2, her2⟩ | ⟨q2, hw2⟩
      case inl =>
        have HER := Lib.hid her2
        have Q2 := Lib.hid q2
        clear her2 q2
        go_wp2_with (first
          | (go_at_call 52; refine (in_true _ _ _ _ Q1.out).mono ?_; rintro e w' ⟨rfl, rfl⟩; clear Q1)
          | (go_at_call 52; refine (in_false _ _ _ _ Q2.out).mono ?_; rintro e w' ⟨rfl, rfl⟩))
        go_ret2
        exact HP.out _ _ ⟨.slice none 0 0, by rw [← HE.out, HER.out]; rfl, X.out, by unfold shareV; rw [if_neg (by rw [← HE.out, HER.out]; decide)]; exact Sl.nil _⟩
      case inr =>
      have Q2 := Lib.hid q2
      rcases hw2 with ⟨q3, her2⟩ | ⟨q3, hw2⟩
      case inl =>
        have HER := Lib.hid her2
        unfold badW at q3
        have HQ3 := Lib.hid q3
        clear her2 q3
        go_wp2_with (first
          | (go_at_call 52; refine (in_true _ _ _ _ Q1.out).mono ?_; rintro e w' ⟨rfl, rfl⟩; clear Q1)
          | (go_at_call 52; refine (in_true _ _ _ _ Q2.out).mono ?_; rintro e w' ⟨rfl, rfl⟩)
          | (go_at_call 53
             refine HCT.out.mono ?_
             rintro e w5 ⟨rfl, nn, hw5⟩
             have hx5 : Ext wr w5 := by rw [hw5]; exact Ext.of_drewN _ _
             clear hw5 s0 t0 wc0
             replace TB := Lib.hid (TB.out.ext hx5)
             replace WB := Lib.hid (WB.out.ext hx5)
             replace SB := Lib.hid (SB.out.ext hx5)
             replace X := Lib.hid (X.out.ext hx5)
             have s0 := SB.out.cell 0
             have t0 := TB.out.cell 0
             have wc0 := WB.out.cell 0
             rw [← HS.out] at s0
             rw [HQ3.out]
             clear hx5 HCT))
        go_ret2
        exact HP.out _ _ ⟨.slice none 0 0, by rw [← HE.out, HER.out]; rfl, X.out, by unfold shareV; rw [if_neg (by rw [← HE.out, HER.out]; decide)]; exact Sl.nil _⟩
      case inr =>
      have HBW := Lib.hid q3
      unfold badW at q3
      have HQ3 := Lib.hid q3
      clear q3
      rcases hw2 with ⟨q4, her2⟩ | ⟨q4, her2⟩
      case inl =>
        have HER := Lib.hid her2
        have q5 : S = 0 := by rw [HS.out]; exact q4
        subst q5
        clear her2 q4
        go_wp2_with (first
          | (go_at_call 52; refine (in_true _ _ _ _ Q1.out).mono ?_; rintro e w' ⟨rfl, rfl⟩; clear Q1)
          | (go_at_call 52; refine (in_true _ _ _ _ Q2.out).mono ?_; rintro e w' ⟨rfl, rfl⟩)
          | (go_at_call 53
             refine HCT.out.mono ?_
             rintro e w5 ⟨rfl, nn, hw5⟩
             have hx5 : Ext wr w5 := by rw [hw5]; exact Ext.of_drewN _ _
             clear hw5 s0 t0 wc0
             replace TB := Lib.hid (TB.out.ext hx5)
             replace WB := Lib.hid (WB.out.ext hx5)
             replace SB := Lib.hid (SB.out.ext hx5)
             replace X := Lib.hid (X.out.ext hx5)
             have s0 := SB.out.cell 0
             have t0 := TB.out.cell 0
             have wc0 := WB.out.cell 0
             rw [← HS.out] at s0
             rw [HQ3.out]
             clear hx5 HCT))
        go_ret2
        exact HP.out _ _ ⟨.slice none 0 0, by rw [← HE.out, HER.out]; rfl, X.out, by unfold shareV; rw [if_neg (by rw [← HE.out, HER.out]; decide)]; exact Sl.nil _⟩
      case inr =>
      have HER := Lib.hid her2
      have hS1 : 1 ≤ S := by rw [HS.out]; have := sumW_range ws; omega
      have hS0 : (S == 0) = false := by simp; omega
      clear her2 q4
      go_upto_region 14 with (first
        | (go_at_call 52; refine (in_true _ _ _ _ Q1.out).mono ?_; rintro e w' ⟨rfl, rfl⟩; clear Q1)
        | (go_at_call 52; refine (in_true _ _ _ _ Q2.out).mono ?_; rintro e w' ⟨rfl, rfl⟩)
        | (go_at_call 53
           refine HCT.out.mono ?_
           rintro e w5 ⟨rfl, nn, hw5⟩
           have hx5 : Ext wr w5 := by rw [hw5]; exact Ext.of_drewN _ _
           clear hw5 s0 t0 wc0
           replace TB := Lib.hid (TB.out.ext hx5)
           replace WB := Lib.hid (WB.out.ext hx5)
           replace SB := Lib.hid (SB.out.ext hx5)
           replace X := Lib.hid (X.out.ext hx5)
           have s0 := SB.out.cell 0
           have t0 := TB.out.cell 0
           have wc0 := WB.out.cell 0
           rw [← HS.out] at s0
           rw [HQ3.out]
           clear hx5 HCT))
      obtain ⟨n, hn⟩ : ∃ n, n = ws.length := ⟨_, rfl⟩
      have hn1 : 1 ≤ n := by omega
      have hn2 : n ≤ 100 := by omega
      have HNW := Lib.hid hn
      rw [← hn] at wc0
      clear hn
      go_cut [9, 10] from 44 to 49 (fun a b W => ∃ g1 g2, a = .slice (some ⟨g1, 0, none⟩) n n ∧ b = .slice (some ⟨g2, 0, none⟩) n n ∧ Hid (Ext w5 W ∧ Blk W g1 (iA (List.replicate n 0)) 3 ∧ Blk W g2 (iA (List.replicate n 0)) 3 ∧ w5.heap.size ≤ g1 ∧ w5.heap.size ≤ g2 ∧ g1 ≠ g2))
      case first =>
        as_aux_lemma =>
          have hxd : Ext w5 w5.drew := (Below.refl _ w5).drew
          refine wp_region_K (fun wx => wx.cell? ⟨wb, 0, none⟩ = some (.slice aw n cw)) 8 (by kernel_rfl) (hxd.cellSome wc0) (fun hHeld => ?_)
          have XC := Lib.hid hxd
          clear hxd wc0 s0 t0
          generalize w5.drew = wA at *
          refine wpAnyK_takeL (i := 0) (v := ?_) rfl (by kernel_rfl) (by kernel_rfl) (by kernel_rfl) (by kernel_rfl) (fun _ _ _ h => h) (Or.inl ⟨by rfl, ?_⟩) hHeld ?_
          rotate_left
          · intro w hSw; (try dsimp only at hSw); go_simp; (try with_reducible rfl)
          try simp only [Act.put, List.setIfInBounds_toArray, List.set_cons_zero, List.set_cons_succ]
          refine wpAnyK_takeL (i := 1) (v := ?_) rfl (by kernel_rfl) (by kernel_rfl) (by kernel_rfl) (by kernel_rfl) (fun _ _ _ h => h) (Or.inl ⟨by rfl, ?_⟩) hHeld ?_
          rotate_left
          · intro w hSw; (try dsimp only at hSw); go_simp; (try with_reducible rfl)
          try simp only [Act.put, List.setIfInBounds_toArray, List.set_cons_zero, List.set_cons_succ]
          refine wpAnyK_takeL (i := 3) (v := ?_) rfl (by kernel_rfl) (by kernel_rfl) (by kernel_rfl) (by kernel_rfl) (fun _ _ _ h => h) (Or.inl ⟨by rfl, ?_⟩) hHeld ?_
          rotate_left
          · intro w hSw; (try dsimp only at hSw); go_simp; (try with_reducible rfl)
          try simp only [Act.put, List.setIfInBounds_toArray, List.set_cons_zero, List.set_cons_succ]
          refine wpAnyK_takeL (i := 4) (v := ?_) rfl (by kernel_rfl) (by kernel_rfl) (by kernel_rfl) (by kernel_rfl) (fun _ _ _ h => h) (Or.inl ⟨by rfl, ?_⟩) hHeld ?_
          rotate_left
          · intro w hSw; (try dsimp only at hSw); go_simp; (try with_reducible rfl)
          try simp only [Act.put, List.setIfInBounds_toArray, List.set_cons_zero, List.set_cons_succ]
          refine wpAnyK_ready (rs := [2, 5]) (by kernel_rfl) (by simp) ?_
          refine AllReadyK.consL (i := 2) rfl (fun K hK => ?_) ?_
          · refine step_makeI tInts rfl rfl (n := n) rfl rfl (by omega) hn1 ?_
            intro g1 w6 hb6 hx6 hl6
            refine hK.out _ _ (fun _ => (hx6.cellSome hHeld)) (fun hHeld2 => ?_)
            clear hK K
            try clear hHeld
            have hHeld := hHeld2 (by decide)
            clear hHeld2
            try simp only [Act.put, List.setIfInBounds_toArray, List.set_cons_zero, List.set_cons_succ]
            refine wpAnyK_takeL (i := 6) (v := ?_) rfl (by kernel_rfl) (by kernel_rfl) (by kernel_rfl) (by kernel_rfl) (fun _ _ _ h => h) (Or.inl ⟨by rfl, ?_⟩) hHeld ?_
            rotate_left
            · intro w hSw; (try dsimp only at hSw); go_simp; (try with_reducible rfl)
            try simp only [Act.put, List.setIfInBounds_toArray, List.set_cons_zero, List.set_cons_succ]
            refine wpAnyK_ready (rs := [5]) (by kernel_rfl) (by simp) ?_
            refine AllReadyK.consL (i := 5) rfl (fun K hK => ?_) ?_
            · refine step_makeI tInts rfl rfl (n := n) rfl rfl (by omega) hn1 ?_
              intro g2 w7 hb7 hx7 hl7
              refine hK.out _ _ (fun _ => (hx7.cellSome hHeld)) (fun hHeld2 => ?_)
              clear hK K
              try clear hHeld
              have hHeld := hHeld2 (by decide)
              clear hHeld2
              try simp only [Act.put, List.setIfInBounds_toArray, List.set_cons_zero, List.set_cons_succ]
              refine wpAnyK_takeL (i := 7) (v := ?_) rfl (by kernel_rfl) (by kernel_rfl) (by kernel_rfl) (by kernel_rfl) (fun _ _ _ h => h) (Or.inl ⟨by rfl, ?_⟩) hHeld ?_
              rotate_left
              · intro w hSw; (try dsimp only at hSw); go_simp; (try with_reducible rfl)
              try simp only [Act.put, List.setIfInBounds_toArray, List.set_cons_zero, List.set_cons_succ]
              have h1 := hb6.ext hx7
              have h2 := hb7
              have hxx := (XC.out.tr hx6).tr hx7
              have hl1 := Nat.le_trans XC.out.size hl6
              have hl2 := Nat.le_trans (XC.out.tr hx6).size hl7
              have hne : g1 ≠ g2 := by have := hb6.lt; omega
              clear hHeld
              refine wpAnyK_done (by kernel_rfl) ?_ _
              have H1 := Lib.hid h1
              have H2 := Lib.hid h2
              have XD := Lib.hid hxx
              have L1 := Lib.hid hl1
              have L2 := Lib.hid hl2
              have NE := Lib.hid hne
              clear h1 h2 hxx hl1 hl2 hne
              go_wp2
              go_meet
              case rel => exact ⟨g1, g2, rfl, rfl, XD.out, H1.out, H2.out, L1.out, L2.out, NE.out⟩
            · exact AllReadyK.nil
          · refine AllReadyK.consL (i := 5) rfl (fun K hK => ?_) ?_
            · refine step_makeI tInts rfl rfl (n := n) rfl rfl (by omega) hn1 ?_
              intro g2 w6 hb6 hx6 hl6
              refine hK.out _ _ (fun _ => (hx6.cellSome hHeld)) (fun hHeld2 => ?_)
              clear hK K
              try clear hHeld
              have hHeld := hHeld2 (by decide)
              clear hHeld2
              try simp only [Act.put, List.setIfInBounds_toArray, List.set_cons_zero, List.set_cons_succ]
              refine wpAnyK_ready (rs := [2]) (by kernel_rfl) (by simp) ?_
              refine AllReadyK.consL (i := 2) rfl (fun K hK => ?_) ?_
              · refine step_makeI tInts rfl rfl (n := n) rfl rfl (by omega) hn1 ?_
                intro g1 w7 hb7 hx7 hl7
                refine hK.out _ _ (fun _ => (hx7.cellSome hHeld)) (fun hHeld2 => ?_)
                clear hK K
                try clear hHeld
                have hHeld := hHeld2 (by decide)
                clear hHeld2
                try simp only [Act.put, List.setIfInBounds_toArray, List.set_cons_zero, List.set_cons_succ]
                refine wpAnyK_takeL (i := 6) (v := ?_) rfl (by kernel_rfl) (by kernel_rfl) (by kernel_rfl) (by kernel_rfl) (fun _ _ _ h => h) (Or.inl ⟨by rfl, ?_⟩) hHeld ?_
                rotate_left
                · intro w hSw; (try dsimp only at hSw); go_simp; (try with_reducible rfl)
                try simp only [Act.put, List.setIfInBounds_toArray, List.set_cons_zero, List.set_cons_succ]
                refine wpAnyK_takeL (i := 7) (v := ?_) rfl (by kernel_rfl) (by kernel_rfl) (by kernel_rfl) (by kernel_rfl) (fun _ _ _ h => h) (Or.inl ⟨by rfl, ?_⟩) hHeld ?_
                rotate_left
                · intro w hSw; (try dsimp only at hSw); go_simp; (try with_reducible rfl)
                try simp only [Act.put, List.setIfInBounds_toArray, List.set_cons_zero, List.set_cons_succ]
                have h1 := hb7
                have h2 := hb6.ext hx7
                have hxx := (XC.out.tr hx6).tr hx7
                have hl1 := Nat.le_trans (XC.out.tr hx6).size hl7
                have hl2 := Nat.le_trans XC.out.size hl6
                have hne : g1 ≠ g2 := by have := hb6.lt; omega
                clear hHeld
                refine wpAnyK_done (by kernel_rfl) ?_ _
                have H1 := Lib.hid h1
                have H2 := Lib.hid h2
                have XD := Lib.hid hxx
                have L1 := Lib.hid hl1
                have L2 := Lib.hid hl2
                have NE := Lib.hid hne
                clear h1 h2 hxx hl1 hl2 hne
                go_wp2
                go_meet
                case rel => exact ⟨g1, g2, rfl, rfl, XD.out, H1.out, H2.out, L1.out, L2.out, NE.out⟩
              · exact AllReadyK.nil
            · exact AllReadyK.nil
      case rest =>
      obtain ⟨g1, g2, rfl, rfl, HCUT⟩ := hcut
      obtain ⟨hx6, h1, h2, hl1, hl2, hne⟩ := HCUT.out
      clear HCUT s0 t0 wc0
      have tbl := TB.out.lt
      have wbl := WB.out.lt
      have sbl := SB.out.lt
      have HSEP := Lib.hid (show tb ≠ g1 ∧ tb ≠ g2 ∧ wb ≠ g1 ∧ wb ≠ g2 ∧ sb ≠ g1 ∧ sb ≠ g2 ∧ g1 ≠ g2 ∧ w.heap.size ≤ g1 ∧ w.heap.size ≤ g2 from by have := X.out.size; refine ⟨?_, ?_, ?_, ?_, ?_, ?_, hne, ?_, ?_⟩ <;> omega)
      obtain ⟨w6, rfl⟩ : ∃ W, W = wc := ⟨wc, rfl⟩
      replace TB := Lib.hid (TB.out.ext hx6)
      replace WB := Lib.hid (WB.out.ext hx6)
      replace SB := Lib.hid (SB.out.ext hx6)
      replace X := Lib.hid (X.out.ext hx6)
      clear hx6 hne hl1 hl2 tbl wbl sbl
      have wc0 := WB.out.cell 0
      have t0 := TB.out.cell 0
      rw [← HS.out] at SB
      obtain ⟨bs, hbs⟩ : ∃ bs, bs = baseS t ws S := ⟨_, rfl⟩
      have hbl : bs.length = n := by rw [hbs, baseS_len, HNW.out]
      have HBS := Lib.hid hbs
      have HBL := Lib.hid hbl
      have hz1 : Blk w6 g1 (iA (fillK bs 0)) 3 := by rw [fillK_zero, hbl]; exact h1
      have hz2 : Blk w6 g2 (iA (fillK (ixs n) 0)) 3 := by rw [fillK_zero, ixs_len]; exact h2
      have G1 := Lib.hid hz1
      have G2 := Lib.hid hz2
      clear hz1 hz2
      clear h1 h2 hbs hbl
      rw [← HNW.out]
      go_upto_region 17 with (fail)
      go_loopw [11, 53] (fun l s wr => ∃ k : Nat, k ≤ n ∧ s = .int .i64 k ∧ l = .int .i64 (t - isum (bs.take k)) ∧ Hid (Blk wr tb #[.int .i64 t] 3 ∧ Blk wr wb #[.slice aw n cw] 22 ∧ Blk wr sb #[.int .i64 S] 3 ∧ Blk wr g1 (iA (fillK bs k)) 3 ∧ Blk wr g2 (iA (fillK (ixs n) k)) 3 ∧ Ext w wr)) (fun _ s _ => n - (intOf s).toNat)
      case atStart => exact ⟨0, Nat.zero_le _, rfl, by simp [isum], TB.out, by rw [HNW.out]; exact WB.out, SB.out, G1.out, G2.out, X.out⟩
      case round =>
        clear TB WB SB X G1 G2 wc0 t0
        obtain ⟨k, hk, rfl, rfl, HR⟩ := hrel
        obtain ⟨htb, hwb, hsb, hg1, hg2, hx⟩ := HR.out
        have t0 := htb.cell 0
        have wc0 := hwb.cell 0
        have s0 := hsb.cell 0
        by_cases hlt : k < n
        · obtain ⟨b, o, rfl, hc⟩ := HV.out.cells (by rw [← HNW.out]; omega)
          have hkw : k < ws.length := by rw [← HNW.out]; exact hlt
          have c0 := hx.cellSome (hc k hkw)
          have hub := badW_ok HBW.out ws[k] (List.getElem_mem hkw)
          have hbk : bs[k]'(by rw [HBL.out]; exact hlt) = t * ws[k] / S := by
            have e := HBS.out
            subst e
            simp [baseS]
          have hit := isum_take bs k (by rw [HBL.out]; exact hlt)
          rw [hbk] at hit
          have hf1 := fillK_set bs k (by rw [HBL.out]; exact hlt)
          rw [hbk] at hf1
          have hf2 := fillK_set (ixs n) k (by rw [ixs_len]; exact hlt)
          have hik : (ixs n)[k]'(by rw [ixs_len]; exact hlt) = (k : Int) := by simp [ixs]
          rw [hik] at hf2
          obtain ⟨u, hu2⟩ : ∃ u, u = ws[k] := ⟨_, rfl⟩
          rw [← hu2] at c0 hub hit hf1
          have htu : 0 ≤ t * u ∧ t * u ≤ 1000000000000000000 := ⟨Int.mul_nonneg q2.1 hub.1, by
            have := Int.mul_le_mul q2.2 hub.2 hub.1 (by omega)
            simpa using this⟩
          have hq : 0 ≤ t * u / S ∧ t * u / S ≤ 1000000000000000000 := ⟨Int.ediv_nonneg htu.1 (by omega), Int.le_trans (Int.ediv_le_self _ htu.1) htu.2⟩
          have hSI : S = isum ws := by rw [HS.out]; exact sumW_all ws HQ3.out
          have hlk := left_take t S ws k hSI hS1 q2.1 (fun u hu => (badW_ok HBW.out u hu).1)
          have hlk2 := left_take t S ws (k + 1) hSI hS1 q2.1 (fun u hu => (badW_ok HBW.out u hu).1)
          rw [← HBS.out] at hlk hlk2
          have hwt : IntKind.i64.wrap (t * u) = t * u := i64_eq _ ⟨by omega, by omega⟩
          have hqd : (t * u).tdiv S = t * u / S := Int.tdiv_eq_ediv_of_nonneg htu.1
          obtain ⟨v, hv2⟩ : ∃ v, v = t * u / S := ⟨_, rfl⟩
          rw [← hv2] at hit hf1 hq hqd
          rw [hit] at hlk2
          have hqe : t * u / S = v := hv2.symm
          obtain ⟨l, hl2⟩ : ∃ l, l = t - isum (bs.take k) := ⟨_, rfl⟩
          have HL2 := Lib.hid (show t - isum (bs.take (k + 1)) = l - v by rw [hit, hl2]; omega)
          have hlb : 0 ≤ l ∧ l ≤ 1000000000000 ∧ 0 ≤ l - v := by omega
          rw [← hl2]
          obtain ⟨l1, l2, l3⟩ := hlb
          have j1 : (0:Int) ≤ (k:Int) := by omega
          have j2 : (k:Int) < (n:Int) := by omega
          have HSZ := Lib.hid (show k < (iA (fillK bs k)).size ∧ k < (iA (fillK (ixs n) k)).size by rw [iA_size, iA_size, fillK_len _ _ (by rw [HBL.out]; exact hk), fillK_len _ _ (by rw [ixs_len]; exact hk), HBL.out, ixs_len]; exact ⟨hlt, hlt⟩)
          have HC1 : Hid (∀ wX, Blk wX g1 (iA (fillK bs (k + 1))) 3 → wX.cell? ⟨g1, k, none⟩ = some (.int .i64 v)) := fun wX hX => by
            rw [hX.cell, ← hf1, iA_get (by have := HSZ.out.1; rw [iA_size] at this; rw [List.length_set]; exact this), gI_set _ _ _ (by have := HSZ.out.1; rw [iA_size] at this; exact this)]
          have F1 := Lib.hid hf1
          have F2 := Lib.hid hf2
          have G1 := Lib.hid hg1
          have G2 := Lib.hid hg2
          have TB := Lib.hid htb
          have WB := Lib.hid hwb
          have SB := Lib.hid hsb
          have X := Lib.hid hx
          clear hf1 hf2 hg1 hg2 htb hwb hsb hx
          clear hc hbk hik hu2 hit hlk hlk2 hv2 hl2 hSI HR hub
          go_wp2_with (first
            | (with_reducible refine wpList_setK (i := k) (v := .int .i64 v) rfl rfl G1.out ?_ ?_ ?_ ?_ ?_ ?_ ?_
               · rfl
               · rfl
               · exact HSZ.out.1
               · kernel_rfl
               · rfl
               · rfl
               rintro w7 hb7 ho7
               rw [iA_set, F1.out] at hb7
               have g2b := G2.out.only ho7 (fun e => HSEP.out.2.2.2.2.2.2.1 e.symm)
               have tb7 := TB.out.only ho7 HSEP.out.1
               have wb7 := WB.out.only ho7 HSEP.out.2.2.1
               have sb7 := SB.out.only ho7 HSEP.out.2.2.2.2.1
               have hx7 := X.out.then_only ho7 (fun k (e : k = g1) => by rw [e]; exact HSEP.out.2.2.2.2.2.2.2.1)
               clear G1 G2 TB WB SB X ho7 t0 wc0 s0 c0
               have GD := Lib.hid hb7
               have G2 := Lib.hid g2b
               have TB := Lib.hid tb7
               have WB := Lib.hid wb7
               have SB := Lib.hid sb7
               have X := Lib.hid hx7
               clear hb7 g2b tb7 wb7 sb7 hx7)
            | (with_reducible refine wpList_setK (i := k) (v := .int .i64 k) rfl rfl G2.out ?_ ?_ ?_ ?_ ?_ ?_ ?_
               · rfl
               · rfl
               · exact HSZ.out.2
               · kernel_rfl
               · rfl
               · rfl
               rintro w7 hb7 ho7
               rw [iA_set, F2.out] at hb7
               have g1b := GD.out.only ho7 HSEP.out.2.2.2.2.2.2.1
               have tb7 := TB.out.only ho7 HSEP.out.2.1
               have wb7 := WB.out.only ho7 HSEP.out.2.2.2.1
               have sb7 := SB.out.only ho7 HSEP.out.2.2.2.2.2.1
               have hx7 := X.out.then_only ho7 (fun k (e : k = g2) => by rw [e]; exact HSEP.out.2.2.2.2.2.2.2.2)
               have c9 := HC1.out _ g1b
               clear GD G2 TB WB SB X ho7
               have GE := Lib.hid g1b
               have G3 := Lib.hid hb7
               have TB := Lib.hid tb7
               have WB := Lib.hid wb7
               have SB := Lib.hid sb7
               have X := Lib.hid hx7
               clear g1b hb7 tb7 wb7 sb7 hx7))
          go_roundw
          case rel => exact ⟨k + 1, by omega, by go_num, by rw [HL2.out], TB.out, WB.out, SB.out, GE.out, G3.out, X.out⟩
          case measure => simp [intOf]; omega
        · obtain rfl : k = n := by omega
          have hSI : S = isum ws := by rw [HS.out]; exact sumW_all ws HQ3.out
          have hlr := left_range t ws (by rw [← hSI]; exact hS1) q2.1 q1.1
          rw [← hSI] at hlr
          have hle : t - isum (bs.take k) = leftS t ws S := by
            have e1 : bs.take k = bs := List.take_of_length_le (by rw [HBL.out]; exact Nat.le_refl _)
            rw [e1, HBS.out]; rfl
          rw [hle]
          have hz1 : Blk wr g1 (iA bs) 3 := by
            have e := fillK_all bs
            rw [HBL.out] at e
            rw [e] at hg1; exact hg1
          have hz2 : Blk wr g2 (iA (ixs k)) 3 := by
            have e := fillK_all (ixs k)
            rw [ixs_len] at e
            rw [e] at hg2; exact hg2
          have hcmp : CmpOk wr g2 #[.pointer (some ⟨tb, 0, none⟩), .pointer (some ⟨wb, 0, none⟩), .pointer (some ⟨sb, 0, none⟩)] (cmpS t ws S) (fun i => 0 ≤ i ∧ i < ws.length) := fun w9 ho9 x y hx9 hy9 => by
            have hvw : Ints wr (.slice aw k cw) ws := by rw [HNW.out]; exact HV.out.ext hx
            refine shareCmp_any t S ws (.slice aw k cw) tb wb sb x y w9 (ho9.cell t0 HSEP.out.2.1) (ho9.cell wc0 HSEP.out.2.2.2.1) (ho9.cell s0 HSEP.out.2.2.2.2.2.1) (Sl.only hvw ho9 (fun b hb e => ?_)) q2 ⟨hS1, ?_⟩ (badW_ok HBW.out) hx9 hy9
            · have hVb : b < w.heap.size := by
                obtain ⟨b1, o1, ha1, hc1⟩ := HV.out.cells (by omega)
                rw [ha1] at hb
                cases hb
                exact World.block_lt_of_cell? w _ (hc1 0 (by omega))
              have := HSEP.out.2.2.2.2.2.2.2.2
              omega
            · have := hr1.2; omega
          have hst := stable_any g2 #[.pointer (some ⟨tb, 0, none⟩), .pointer (some ⟨wb, 0, none⟩), .pointer (some ⟨sb, 0, none⟩)] (cmpS t ws S) (fun i => - remS t ws S i) (cmpS_key t ws S) (fun i => 0 ≤ i ∧ i < ws.length) (ixs k) k wr hz2 (ixs_len k) (by have := HNW.out; omega) (ixs_up k) (fun x hx => by
            unfold ixs at hx
            obtain ⟨i, hi, rfl⟩ := List.mem_map.1 hx
            rw [List.mem_range] at hi
            have := HNW.out
            omega) hcmp
          have hrk : insN (cmpS t ws S) 0 (k - 1) (ixs k) = rankS t ws S := by unfold rankS; rw [HNW.out]
          rw [hrk] at hst
          obtain ⟨l, hl2⟩ := Int.eq_ofNat_of_zero_le hlr.1
          rw [hl2]
          have HLL := Lib.hid hl2
          have hlk : l < k := by have := hlr.2; have := HNW.out; omega
          have HST := Lib.hid hst
          have G1 := Lib.hid hz1
          have X := Lib.hid hx
          clear hst hz1 hx
          clear hcmp hrk hle hl2 hlr hSI HR hg1 hg2 hz2 htb hwb hsb t0 wc0 s0 hlt
          have hge : ws.length ≤ k := by have := HNW.out; omega
          have hmf : ∀ (fn : Fn) (first cap : Array Value) (w : World), (Instr.makeFunc fn first cap).run Try.prog w = .ok (.func fn first cap) w := fun _ _ _ _ => rfl
          go_upto_region 24 with (
            go_at_call 55
            refine HST.out.mono ?_
            rintro e w9 ⟨rfl, hb9, ho9⟩
            have g1b := G1.out.only ho9 HSEP.out.2.2.2.2.2.2.1
            have hx9 := X.out.then_only ho9 (fun k (e : k = g2) => by rw [e]; exact HSEP.out.2.2.2.2.2.2.2.2)
            clear G1 X HST ho9
            have G1 := Lib.hid g1b
            have G2 := Lib.hid hb9
            have X := Lib.hid hx9
            clear g1b hb9 hx9)
          clear hmf
          have hrl : (rankS t ws S).length = k := by rw [rankS_len, HNW.out]
          have hrr := rank_range t ws S
          have hba := base_all t S ws hS1 q2 (badW_ok HBW.out)
          rw [← HBS.out] at hba
          obtain ⟨rk, hrk⟩ : ∃ r, r = rankS t ws S := ⟨_, rfl⟩
          rw [← hrk] at G2 hrl hrr
          have hout : shareV t ws = (rk.take l).foldl bump bs := by
            unfold shareV
            rw [if_pos (by rw [← HE.out]; exact HER.out), ← HS.out]
            unfold outS
            rw [← hrk, HLL.out, ← HBS.out]
            rfl
          have HRL := Lib.hid hrl
          have HRR := Lib.hid hrr
          have HBA := Lib.hid hba
          have HOUT := Lib.hid hout
          clear hrl hrr hba hout
          clear hrk
          go_loopw [84] (fun s wr => ∃ q : Nat, q ≤ l ∧ s = .int .i64 q ∧ Hid (Blk wr g1 (iA ((rk.take q).foldl bump bs)) 3 ∧ Blk wr g2 (iA rk) 3 ∧ Ext w wr) ∧ Hid (∀ x ∈ (rk.take q).foldl bump bs, 0 ≤ x ∧ x ≤ 1000000000000000000 + q)) (fun s _ => l - (intOf s).toNat)
          case atStart => exact ⟨0, Nat.zero_le _, rfl, ⟨G1.out, G2.out, X.out⟩, fun x hx => by have := HBA.out x hx; omega⟩
          case round =>
            clear G1 G2 X
            obtain ⟨q, hq, rfl, HR, HB⟩ := hrel
            obtain ⟨hg1, hg2, hx⟩ := HR.out
            by_cases hlt : q < l
            · have hqr : q < rk.length := by rw [HRL.out]; omega
              have c2 := hg2.int hqr
              rw [gI_get hqr] at c2
              have hrq := HRR.out _ (List.getElem_mem hqr)
              have hft := foldl_take rk bs q hqr
              have hol : ((rk.take q).foldl bump bs).length = k := by rw [bumps_len, HBL.out]
              obtain ⟨i, hi⟩ := Int.eq_ofNat_of_zero_le hrq.1
              rw [hi] at c2 hrq hft
              have hik : i < k := by have := hrq.2; have := HNW.out; omega
              have c1 := hg1.int (show i < ((rk.take q).foldl bump bs).length by rw [hol]; exact hik)
              have hb1 := HB.out (gI ((rk.take q).foldl bump bs) i) (by rw [gI_get (by rw [hol]; exact hik)]; exact List.getElem_mem _)
              have hbp : bump ((rk.take q).foldl bump bs) (i : Int) = ((rk.take q).foldl bump bs).set i (gI ((rk.take q).foldl bump bs) i + 1) := by unfold bump; rw [Int.toNat_natCast]
              have hba2 : ∀ x ∈ (rk.take (q + 1)).foldl bump bs, 0 ≤ x ∧ x ≤ 1000000000000000000 + ((q + 1 : Nat) : Int) := fun x hx => by
                rw [hft] at hx
                have := bump_all (M := 1000000000000000000 + (q:Int)) HB.out (by omega) x hx
                push_cast; omega
              obtain ⟨y, hy⟩ : ∃ y, y = gI ((rk.take q).foldl bump bs) i := ⟨_, rfl⟩
              rw [← hy] at c1 hb1 hbp
              have HSZ := Lib.hid (show i < (iA ((rk.take q).foldl bump bs)).size by rw [iA_size, hol]; exact hik)
              have HFT := Lib.hid (hft.trans hbp)
              have y1 := hb1.1
              have y2 : y ≤ 2000000000000000000 := by have := hb1.2; omega
              have j1 : (0:Int) ≤ (q:Int) := by omega
              have j2 : (q:Int) < (l:Int) := by omega
              have j3 : (0:Int) ≤ (i:Int) := by omega
              have j4 : (i:Int) < (k:Int) := by omega
              have hb2 := Lib.hid hba2
              have G1 := Lib.hid hg1
              have G2 := Lib.hid hg2
              have X := Lib.hid hx
              clear hg1 hg2 hx
              clear hft hol hbp hy hb1 hi hrq hba2 HR
              go_wp2_with (
                with_reducible refine wpList_setK (i := i) (v := .int .i64 (y + 1)) rfl rfl G1.out ?_ ?_ ?_ ?_ ?_ ?_ ?_
                · rfl
                · rfl
                · exact HSZ.out
                · kernel_rfl
                · rfl
                · rfl
                rintro w7 hb7 ho7
                rw [iA_set, ← HFT.out] at hb7
                have g2b := G2.out.only ho7 (fun e => HSEP.out.2.2.2.2.2.2.1 e.symm)
                have hx7 := X.out.then_only ho7 (fun k (e : k = g1) => by rw [e]; exact HSEP.out.2.2.2.2.2.2.2.1)
                clear G1 G2 X ho7 c1 c2
                have GD := Lib.hid hb7
                have G2 := Lib.hid g2b
                have X := Lib.hid hx7
                clear hb7 g2b hx7)
              go_roundw
              case rel => exact ⟨q + 1, by omega, by go_num, ⟨GD.out, G2.out, X.out⟩, hb2⟩
              case measure => simp [intOf]; omega
            · obtain rfl : q = l := by omega
              clear hlt
              go_wp2
              go_ret2
              refine HP.out _ _ ⟨.slice (some ⟨g1, 0, none⟩) k k, by rw [← HE.out, HER.out]; rfl, hx, ?_⟩
              rw [HOUT.out]
              exact hg1.ints (by rw [bumps_len, HBL.out]) (by omega)
end Go.Proofs.Ytekplfbfkfiabaa
