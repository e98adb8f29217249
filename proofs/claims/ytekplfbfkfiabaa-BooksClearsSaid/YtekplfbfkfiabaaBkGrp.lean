/- Groups of the program, where its loops come to an end. -/
import Derived.Test.YtekplfbfkfiabaaGrTab
import Derived.WalkMore
import Derived.Sort.QuietIn
import Derived.Deep.CutRange
namespace Go.Proofs.Ytekplfbfkfiabaa
open Go.RowKit Go.Shelf
set_option linter.unusedVariables false
set_option linter.unusedSimpArgs false
attribute [local go_sem] Oper.semAt_some

/-- What two ways of a tree of orders share. -/
theorem shareH {G T : Prop} (h : Hid T → G) (hT : T) : G := h (Lib.hid hT)
theorem all_i64 (n : Nat) (h : n ≤ 10) : wrap64 (wrap64 ((2:Int) ^ n) - 1) = ((2 ^ n - 1 : Nat) : Int) := by
  have : ∀ n : Fin 11, wrap64 (wrap64 ((2:Int) ^ n.1) - 1) = ((2 ^ n.1 - 1 : Nat) : Int) := by decide +kernel
  exact this ⟨n, by omega⟩
theorem pow_range (n : Nat) (h : n ≤ 10) (h0 : 0 < n) : 2 ≤ 2 ^ n ∧ 2 ^ n ≤ 1024 := by
  have : ∀ n : Fin 11, 0 < n.1 → 2 ≤ 2 ^ n.1 ∧ 2 ^ n.1 ≤ 1024 := by decide +kernel
  exact this ⟨n, by omega⟩ h0
def GroupsPost (w : World) (l : List Int) (e : Ending) (w' : World) : Prop :=
  ∃ v, e = .returned (.tuple #[v, .int .i64 (groupsE l)]) ∧ Ext w w' ∧
    ((groupsE l ≠ 0 ∧ v = .slice none 0 0) ∨ (groupsE l = 0 ∧ ∃ g o, v = .slice (some ⟨g, 0, none⟩) l.length l.length ∧ w.heap.size ≤ g ∧ groupsP l = some o ∧ o.length = l.length ∧ Blk w' g (iA o) 3))

set_option maxRecDepth 100000 in
set_option maxHeartbeats 8000000 in
theorem groups_any (l : List Int) (vl : Value) (w : World) (hv : Ints w vl l) (hu : ∀ u ∈ l, I64 u) (hl : l.length ≤ 1000) (h0 : 0 < l.length) (hG : groupsE l = 0 → (groupsP l).isSome = true) :
    Calls Try.prog 19 #[vl] w (GroupsPost w l) := by
  have hp : ∀ e w', GroupsPost w l e w' → GroupsPost w l e w' := fun _ _ h => h
  obtain ⟨er, her⟩ : ∃ er, er = groupsE l := ⟨_, rfl⟩
  have hw := groupsE_ways l
  rw [← her] at hw
  obtain ⟨al, cl, rfl, HV⟩ := hv.form
  have HP := Lib.hid hp
  have HE := Lib.hid her
  have HW := Lib.hid hw
  have HU := Lib.hid hu
  have HG := Lib.hid hG
  clear hp her hw hu hG
  clear hv
  refine (callsIn_wide (n := 10)).1 (callsIn_of_wp_marks Try.func19 rfl trivial (wpIn_wide.2 ?_) rfl)
  simp only [Try.ntmps19, List.size_toArray, List.length_cons, List.length_nil, Nat.reduceAdd, Nat.reduceSub, Array.replicate_succ, Array.replicate_zero, List.push_toArray, List.append_toArray, List.nil_append, List.cons_append]
  go_upto_region 3 with (fail)
  go_loopw [4, 25] (fun v s wr => ∃ k : Nat, k ≤ l.length ∧ s = .int .i64 k ∧ Hid (v = .int .i64 (sumN (l.take k))) ∧ Hid (Ext w wr)) (fun _ s _ => l.length - (intOf s).toNat)
  case atStart => exact ⟨0, Nat.zero_le _, rfl, rfl, Below.refl _ _⟩
  case round =>
    obtain ⟨k, hk, rfl, HVV, X⟩ := hrel
    have hvv := HVV.out
    by_cases hlt : k < l.length
    · obtain ⟨b, o, rfl, hc⟩ := HV.out.cells (by omega)
      have c0 := X.out.cellSome (hc k hlt)
      have hst := sumN_take l k hlt
      have hr1 := sumN_range (l.take k)
      rw [List.length_take, Nat.min_eq_left hk] at hr1
      obtain ⟨u, hu2⟩ : ∃ u, u = l[k] := ⟨_, rfl⟩
      rw [← hu2] at c0 hst
      obtain ⟨s1, hs1⟩ : ∃ s, s = sumN (l.take k) := ⟨_, rfl⟩
      rw [← hs1] at hvv hst hr1
      subst hvv
      have j1 : (0:Int) ≤ (k:Int) := by omega
      have j2 : (k:Int) < (l.length:Int) := by omega
      clear hc hu2 HVV
      by_cases hin : -1000000000 ≤ u ∧ u ≤ 1000000000
      · have hiw : inN u = true := (nIn_iff u _ _).2 hin
        rw [if_pos hiw] at hst
        have HIN := Lib.hid hin
        have HST := Lib.hid hst
        obtain ⟨hin1, hin2⟩ := hin
        obtain ⟨s1a, s1b⟩ := hr1
        have s1c : -1000000000000 ≤ s1 := by omega
        have s1d : s1 ≤ 1000000000000 := by omega
        clear hiw hst hs1 s1a s1b
        go_wp2_with (go_at_call 52; refine (in_true _ _ _ _ HIN.out).mono ?_; rintro e w' ⟨rfl, rfl⟩)
        go_roundw
        case rel => exact ⟨k + 1, by omega, by go_num, Lib.hid (by rw [HST.out]), X⟩
        case measure => simp [intOf]; omega
      · have hiw : inN u = false := by unfold inN; rw [Bool.eq_false_iff]; intro hh; exact hin ((nIn_iff u _ _).1 hh)
        rw [if_neg (by rw [hiw]; decide)] at hst
        have HIN := Lib.hid hin
        have HST := Lib.hid (show sumN (l.take (k + 1)) = s1 by rw [hst]; omega)
        clear hiw hst hs1 hr1 hin
        go_wp2_with (go_at_call 52; refine (in_false _ _ _ _ HIN.out).mono ?_; rintro e w' ⟨rfl, rfl⟩)
        go_roundw
        case rel => exact ⟨k + 1, by omega, by go_num, Lib.hid (by rw [HST.out]), X⟩
        case measure => simp [intOf]; omega
    · obtain rfl : k = l.length := by omega
      rw [List.take_length] at hvv
      obtain ⟨sm, hsm⟩ : ∃ s, s = sumN l := ⟨_, rfl⟩
      rw [← hsm] at hvv
      have HSM := Lib.hid hsm
      subst hvv
      clear hlt HVV hsm
      have hvr := HV.out.ext X.out
      have HCT := Lib.hid (containsI_any l _ 58 (fun u => !nIn u (-1000000000) 1000000000) wr hvr (fun a w => by simp [go_sem]) badN_any)
      clear hvr
      rcases HW.out with ⟨q1, her2⟩ | ⟨q1, hw2⟩
      case inl =>
        have HER := Lib.hid her2
        have q2 : (10:Int) < (l.length:Int) := by omega
        clear her2
        go_wp2
        refine leaves_marks [] _ List.nodup_nil (fun _ h => by cases h) (fun w' hw' => ?_)
        exact ⟨.tuple #[.slice none 0 0, .int .i64 er], by rw [HER.out]; simp [results, Try.f19, go_sem], HP.out _ _ ⟨.slice none 0 0, by rw [← HE.out], X.out.then_only hw' (fun b h => by cases h), .inl ⟨by rw [← HE.out, HER.out]; decide, rfl⟩⟩⟩
      case inr =>
      have q2 : (l.length:Int) ≤ 10 := by omega
      rcases hw2 with ⟨q3, her2⟩ | ⟨q3, hw2⟩
      case inl =>
        have HER := Lib.hid her2
        unfold badN at q3
        have HQ3 := Lib.hid q3
        clear her2 q3
        go_wp2_with (
          go_at_call 53
          refine HCT.out.mono ?_
          rintro e w5 ⟨rfl, nn, hw5⟩
          have hx5 : Ext wr w5 := by rw [hw5]; exact Ext.of_drewN _ _
          clear hw5
          replace X := Lib.hid (X.out.ext hx5)
          rw [HQ3.out]
          clear hx5 HCT)
        refine leaves_marks [] _ List.nodup_nil (fun _ h => by cases h) (fun w' hw' => ?_)
        exact ⟨.tuple #[.slice none 0 0, .int .i64 er], by rw [HER.out]; simp [results, Try.f19, go_sem], HP.out _ _ ⟨.slice none 0 0, by rw [← HE.out], X.out.then_only hw' (fun b h => by cases h), .inl ⟨by rw [← HE.out, HER.out]; decide, rfl⟩⟩⟩
      case inr =>
      have HBN := Lib.hid q3
      unfold badN at q3
      have HQ3 := Lib.hid q3
      clear q3
      rcases hw2 with ⟨q4, her2⟩ | ⟨q4, her2⟩
      case inl =>
        have HER := Lib.hid her2
        have q5 : (sm != 0) = true := by rw [HSM.out]; simpa using q4
        clear her2 q4
        go_wp2_with (
          go_at_call 53
          refine HCT.out.mono ?_
          rintro e w5 ⟨rfl, nn, hw5⟩
          have hx5 : Ext wr w5 := by rw [hw5]; exact Ext.of_drewN _ _
          clear hw5
          replace X := Lib.hid (X.out.ext hx5)
          rw [HQ3.out]
          clear hx5 HCT)
        refine leaves_marks [] _ List.nodup_nil (fun _ h => by cases h) (fun w' hw' => ?_)
        exact ⟨.tuple #[.slice none 0 0, .int .i64 er], by rw [HER.out]; simp [results, Try.f19, go_sem], HP.out _ _ ⟨.slice none 0 0, by rw [← HE.out], X.out.then_only hw' (fun b h => by cases h), .inl ⟨by rw [← HE.out, HER.out]; decide, rfl⟩⟩⟩
      case inr =>
      have HER := Lib.hid her2
      have q5 : sm = 0 := by rw [HSM.out]; exact q4
      subst q5
      clear her2 q4
      go_upto_region 14 with (
        go_at_call 53
        refine HCT.out.mono ?_
        rintro e w5 ⟨rfl, nn, hw5⟩
        have hx5 : Ext wr w5 := by rw [hw5]; exact Ext.of_drewN _ _
        clear hw5
        replace X := Lib.hid (X.out.ext hx5)
        rw [HQ3.out]
        clear hx5 HCT)
      go_upto_region 15 with (fail)
      rw [all_i64 l.length q1]
      obtain ⟨N, hN⟩ : ∃ N, N = 2 ^ l.length := ⟨_, rfl⟩
      obtain ⟨A, hA⟩ : ∃ A, A = N - 1 := ⟨_, rfl⟩
      have hpr := pow_range l.length q1 h0
      rw [← hN] at hpr
      rw [← hN, ← hA]
      have kN : (A:Int) + 1 = (N:Int) := by omega
      have kW : IntKind.i64.wrap (N:Int) = (N:Int) := i64_eq _ ⟨by omega, by omega⟩
      have HNL := Lib.hid hN
      have HNA := Lib.hid hA
      have HN1 : Hid (N ≤ 1000000 ∧ 1 ≤ N) := ⟨by omega, by omega⟩
      obtain ⟨N2, N3⟩ := hpr
      clear hN hA
      go_cut [8, 9] from 49 to 54 (fun a b W => ∃ p2 p5 p6 p7, a = .pointer (some ⟨p6, 0, none⟩) ∧ b = .pointer (some ⟨p7, 0, none⟩) ∧ Hid (Ext w5 W ∧ Blk W p6 #[.slice (some ⟨p2, 0, none⟩) N N] 22 ∧ Blk W p7 #[.slice (some ⟨p5, 0, none⟩) N N] 22 ∧ Blk W p2 (iA (List.replicate N 0)) 3 ∧ Blk W p5 (iA (List.replicate N 0)) 3 ∧ w5.heap.size ≤ p2 ∧ w5.heap.size ≤ p5 ∧ w5.heap.size ≤ p6 ∧ w5.heap.size ≤ p7 ∧ p2 ≠ p5 ∧ p2 ≠ p6 ∧ p2 ≠ p7 ∧ p5 ≠ p6 ∧ p5 ≠ p7 ∧ p6 ≠ p7))
      case first =>
        as_aux_lemma =>
          have hxd : Ext w5 w5.drew := (Below.refl _ w5).drew
          refine wp_region_K (fun _ => True) 10 (by kernel_rfl) trivial (fun hHeld => ?_)
          have XC := Lib.hid hxd
          clear hxd
          obtain ⟨wy, hwy⟩ : ∃ W, W = w5.drew := ⟨_, rfl⟩
          rw [← hwy] at XC
          rw [← hwy]
          clear hwy
          refine wpAnyK_takeL (i := 0) (v := ?_) rfl (by kernel_rfl) (by kernel_rfl) (by kernel_rfl) (by kernel_rfl) (fun _ _ _ h => hQ19 (by decide) h) (Or.inl ⟨by rfl, ?_⟩) hHeld ?_
          rotate_left
          · intro w hSw; (try dsimp only at hSw); go_simp; (try with_reducible rfl)
          try simp only [Act.put, List.setIfInBounds_toArray, List.set_cons_zero, List.set_cons_succ]
          refine wpAnyK_takeL (i := 1) (v := ?_) rfl (by kernel_rfl) (by kernel_rfl) (by kernel_rfl) (by kernel_rfl) (fun _ _ _ h => hQ19 (by decide) h) (Or.inl ⟨by rfl, ?_⟩) hHeld ?_
          rotate_left
          · intro w hSw; (try dsimp only at hSw); go_simp; (try with_reducible rfl)
          try simp only [Act.put, List.setIfInBounds_toArray, List.set_cons_zero, List.set_cons_succ]
          refine wpAnyK_takeL (i := 3) (v := ?_) rfl (by kernel_rfl) (by kernel_rfl) (by kernel_rfl) (by kernel_rfl) (fun _ _ _ h => hQ19 (by decide) h) (Or.inl ⟨by rfl, ?_⟩) hHeld ?_
          rotate_left
          · intro w hSw; (try dsimp only at hSw); go_simp; (try with_reducible rfl)
          try simp only [Act.put, List.setIfInBounds_toArray, List.set_cons_zero, List.set_cons_succ]
          refine wpAnyK_takeL (i := 4) (v := ?_) rfl (by kernel_rfl) (by kernel_rfl) (by kernel_rfl) (by kernel_rfl) (fun _ _ _ h => hQ19 (by decide) h) (Or.inl ⟨by rfl, ?_⟩) hHeld ?_
          rotate_left
          · intro w hSw; (try dsimp only at hSw); go_simp; (try with_reducible rfl)
          try simp only [Act.put, List.setIfInBounds_toArray, List.set_cons_zero, List.set_cons_succ]
          clear hHeld
          apply shareH
          case' h => intro k2_5_6_7_8_9
          apply shareH
          case' h => intro k2_5_6_7_8
          apply shareH
          case' h => intro k2_5_6_7
          apply shareH
          case' h => intro k2_6_7_8
          apply shareH
          case' h => intro k2_5_6
          apply shareH
          case' h => intro k2_5_7
          apply shareH
          case' h => intro k2_6_7
          apply shareH
          case' h => intro k5_6_7
          apply shareH
          case' h => intro k2_5
          apply shareH
          case' h => intro k2_6
          apply shareH
          case' h => intro k2_7
          apply shareH
          case' h => intro k5_6
          apply shareH
          case' h => intro k5_7
          apply shareH
          case' h => intro k6_7
          apply shareH
          case' h => intro k2
          apply shareH
          case' h => intro k5
          apply shareH
          case' h => intro k6
          apply shareH
          case' h => intro k7
          · refine wpAnyK_ready (rs := [2, 5, 6, 7]) (by kernel_rfl) (by simp) ?_
            refine AllReadyK.consL (i := 2) rfl (fun K hK => ?_) ?_
            · refine step_makeI tInts rfl rfl (n := N) rfl rfl HN1.out.1 HN1.out.2 ?_
              intro p2 wn hb hx hl
              have L2 := Lib.hid (Nat.le_trans XC.out.size hl)
              have H2 := Lib.hid hb
              replace XC := Lib.hid (XC.out.tr hx)
              clear hx hl hb
              refine hK.out _ _ (fun _ => trivial) (fun hHeld2 => ?_)
              clear hK K
              try clear hHeld
              have hHeld := hHeld2 (by decide)
              clear hHeld2
              try simp only [Act.put, List.setIfInBounds_toArray, List.set_cons_zero, List.set_cons_succ]
              clear hHeld
              obtain ⟨wy, rfl⟩ : ∃ W, W = wn := ⟨wn, rfl⟩
              revert H2
              revert L2
              revert XC
              revert p2
              revert wy
              exact k2.out
            refine AllReadyK.consL (i := 5) rfl (fun K hK => ?_) ?_
            · refine step_makeI tInts rfl rfl (n := N) rfl rfl HN1.out.1 HN1.out.2 ?_
              intro p5 wn hb hx hl
              have L5 := Lib.hid (Nat.le_trans XC.out.size hl)
              have H5 := Lib.hid hb
              replace XC := Lib.hid (XC.out.tr hx)
              clear hx hl hb
              refine hK.out _ _ (fun _ => trivial) (fun hHeld2 => ?_)
              clear hK K
              try clear hHeld
              have hHeld := hHeld2 (by decide)
              clear hHeld2
              try simp only [Act.put, List.setIfInBounds_toArray, List.set_cons_zero, List.set_cons_succ]
              clear hHeld
              obtain ⟨wy, rfl⟩ : ∃ W, W = wn := ⟨wn, rfl⟩
              revert H5
              revert L5
              revert XC
              revert p5
              revert wy
              exact k5.out
            refine AllReadyK.consL (i := 6) rfl (fun K hK => ?_) ?_
            · refine step_alloc1 rfl rfl Try.zeroValue22 rfl ?_
              intro p6 wn hb hx hl
              have L6 := Lib.hid (Nat.le_trans XC.out.size hl)
              have H6 := Lib.hid hb
              replace XC := Lib.hid (XC.out.tr hx)
              clear hx hl hb
              refine hK.out _ _ (fun _ => trivial) (fun hHeld2 => ?_)
              clear hK K
              try clear hHeld
              have hHeld := hHeld2 (by decide)
              clear hHeld2
              try simp only [Act.put, List.setIfInBounds_toArray, List.set_cons_zero, List.set_cons_succ]
              clear hHeld
              obtain ⟨wy, rfl⟩ : ∃ W, W = wn := ⟨wn, rfl⟩
              revert H6
              revert L6
              revert XC
              revert p6
              revert wy
              exact k6.out
            refine AllReadyK.consL (i := 7) rfl (fun K hK => ?_) ?_
            · refine step_alloc1 rfl rfl Try.zeroValue22 rfl ?_
              intro p7 wn hb hx hl
              have L7 := Lib.hid (Nat.le_trans XC.out.size hl)
              have H7 := Lib.hid hb
              replace XC := Lib.hid (XC.out.tr hx)
              clear hx hl hb
              refine hK.out _ _ (fun _ => trivial) (fun hHeld2 => ?_)
              clear hK K
              try clear hHeld
              have hHeld := hHeld2 (by decide)
              clear hHeld2
              try simp only [Act.put, List.setIfInBounds_toArray, List.set_cons_zero, List.set_cons_succ]
              clear hHeld
              obtain ⟨wy, rfl⟩ : ∃ W, W = wn := ⟨wn, rfl⟩
              revert H7
              revert L7
              revert XC
              revert p7
              revert wy
              exact k7.out
            · exact AllReadyK.nil
          · intro wy p7 XC L7 H7
            refine wpAnyK_ready (rs := [2, 5, 6]) (by kernel_rfl) (by simp) ?_
            refine AllReadyK.consL (i := 2) rfl (fun K hK => ?_) ?_
            · refine step_makeI tInts rfl rfl (n := N) rfl rfl HN1.out.1 HN1.out.2 ?_
              intro p2 wn hb hx hl
              have E27 : Hid (p2 ≠ p7) := by have h1 := H7.out.lt; show p2 ≠ p7; omega
              have L2 := Lib.hid (Nat.le_trans XC.out.size hl)
              replace H7 := Lib.hid (H7.out.ext hx)
              have H2 := Lib.hid hb
              replace XC := Lib.hid (XC.out.tr hx)
              clear hx hl hb
              refine hK.out _ _ (fun _ => trivial) (fun hHeld2 => ?_)
              clear hK K
              try clear hHeld
              have hHeld := hHeld2 (by decide)
              clear hHeld2
              try simp only [Act.put, List.setIfInBounds_toArray, List.set_cons_zero, List.set_cons_succ]
              clear hHeld
              obtain ⟨wy, rfl⟩ : ∃ W, W = wn := ⟨wn, rfl⟩
              revert H7
              revert H2
              revert E27
              revert L7
              revert L2
              revert XC
              revert p7
              revert p2
              revert wy
              exact k2_7.out
            refine AllReadyK.consL (i := 5) rfl (fun K hK => ?_) ?_
            · refine step_makeI tInts rfl rfl (n := N) rfl rfl HN1.out.1 HN1.out.2 ?_
              intro p5 wn hb hx hl
              have E57 : Hid (p5 ≠ p7) := by have h1 := H7.out.lt; show p5 ≠ p7; omega
              have L5 := Lib.hid (Nat.le_trans XC.out.size hl)
              replace H7 := Lib.hid (H7.out.ext hx)
              have H5 := Lib.hid hb
              replace XC := Lib.hid (XC.out.tr hx)
              clear hx hl hb
              refine hK.out _ _ (fun _ => trivial) (fun hHeld2 => ?_)
              clear hK K
              try clear hHeld
              have hHeld := hHeld2 (by decide)
              clear hHeld2
              try simp only [Act.put, List.setIfInBounds_toArray, List.set_cons_zero, List.set_cons_succ]
              clear hHeld
              obtain ⟨wy, rfl⟩ : ∃ W, W = wn := ⟨wn, rfl⟩
              revert H7
              revert H5
              revert E57
              revert L7
              revert L5
              revert XC
              revert p7
              revert p5
              revert wy
              exact k5_7.out
            refine AllReadyK.consL (i := 6) rfl (fun K hK => ?_) ?_
            · refine step_alloc1 rfl rfl Try.zeroValue22 rfl ?_
              intro p6 wn hb hx hl
              have E67 : Hid (p6 ≠ p7) := by have h1 := H7.out.lt; show p6 ≠ p7; omega
              have L6 := Lib.hid (Nat.le_trans XC.out.size hl)
              replace H7 := Lib.hid (H7.out.ext hx)
              have H6 := Lib.hid hb
              replace XC := Lib.hid (XC.out.tr hx)
              clear hx hl hb
              refine hK.out _ _ (fun _ => trivial) (fun hHeld2 => ?_)
              clear hK K
              try clear hHeld
              have hHeld := hHeld2 (by decide)
              clear hHeld2
              try simp only [Act.put, List.setIfInBounds_toArray, List.set_cons_zero, List.set_cons_succ]
              clear hHeld
              obtain ⟨wy, rfl⟩ : ∃ W, W = wn := ⟨wn, rfl⟩
              revert H7
              revert H6
              revert E67
              revert L7
              revert L6
              revert XC
              revert p7
              revert p6
              revert wy
              exact k6_7.out
            · exact AllReadyK.nil
          · intro wy p6 XC L6 H6
            refine wpAnyK_ready (rs := [2, 5, 7]) (by kernel_rfl) (by simp) ?_
            refine AllReadyK.consL (i := 2) rfl (fun K hK => ?_) ?_
            · refine step_makeI tInts rfl rfl (n := N) rfl rfl HN1.out.1 HN1.out.2 ?_
              intro p2 wn hb hx hl
              have E26 : Hid (p2 ≠ p6) := by have h1 := H6.out.lt; show p2 ≠ p6; omega
              have L2 := Lib.hid (Nat.le_trans XC.out.size hl)
              replace H6 := Lib.hid (H6.out.ext hx)
              have H2 := Lib.hid hb
              replace XC := Lib.hid (XC.out.tr hx)
              clear hx hl hb
              refine hK.out _ _ (fun _ => trivial) (fun hHeld2 => ?_)
              clear hK K
              try clear hHeld
              have hHeld := hHeld2 (by decide)
              clear hHeld2
              try simp only [Act.put, List.setIfInBounds_toArray, List.set_cons_zero, List.set_cons_succ]
              clear hHeld
              obtain ⟨wy, rfl⟩ : ∃ W, W = wn := ⟨wn, rfl⟩
              revert H6
              revert H2
              revert E26
              revert L6
              revert L2
              revert XC
              revert p6
              revert p2
              revert wy
              exact k2_6.out
            refine AllReadyK.consL (i := 5) rfl (fun K hK => ?_) ?_
            · refine step_makeI tInts rfl rfl (n := N) rfl rfl HN1.out.1 HN1.out.2 ?_
              intro p5 wn hb hx hl
              have E56 : Hid (p5 ≠ p6) := by have h1 := H6.out.lt; show p5 ≠ p6; omega
              have L5 := Lib.hid (Nat.le_trans XC.out.size hl)
              replace H6 := Lib.hid (H6.out.ext hx)
              have H5 := Lib.hid hb
              replace XC := Lib.hid (XC.out.tr hx)
              clear hx hl hb
              refine hK.out _ _ (fun _ => trivial) (fun hHeld2 => ?_)
              clear hK K
              try clear hHeld
              have hHeld := hHeld2 (by decide)
              clear hHeld2
              try simp only [Act.put, List.setIfInBounds_toArray, List.set_cons_zero, List.set_cons_succ]
              clear hHeld
              obtain ⟨wy, rfl⟩ : ∃ W, W = wn := ⟨wn, rfl⟩
              revert H6
              revert H5
              revert E56
              revert L6
              revert L5
              revert XC
              revert p6
              revert p5
              revert wy
              exact k5_6.out
            refine AllReadyK.consL (i := 7) rfl (fun K hK => ?_) ?_
            · refine step_alloc1 rfl rfl Try.zeroValue22 rfl ?_
              intro p7 wn hb hx hl
              have E67 : Hid (p6 ≠ p7) := by have h1 := H6.out.lt; show p6 ≠ p7; omega
              have L7 := Lib.hid (Nat.le_trans XC.out.size hl)
              replace H6 := Lib.hid (H6.out.ext hx)
              have H7 := Lib.hid hb
              replace XC := Lib.hid (XC.out.tr hx)
              clear hx hl hb
              refine hK.out _ _ (fun _ => trivial) (fun hHeld2 => ?_)
              clear hK K
              try clear hHeld
              have hHeld := hHeld2 (by decide)
              clear hHeld2
              try simp only [Act.put, List.setIfInBounds_toArray, List.set_cons_zero, List.set_cons_succ]
              clear hHeld
              obtain ⟨wy, rfl⟩ : ∃ W, W = wn := ⟨wn, rfl⟩
              revert H7
              revert H6
              revert E67
              revert L7
              revert L6
              revert XC
              revert p7
              revert p6
              revert wy
              exact k6_7.out
            · exact AllReadyK.nil
          · intro wy p5 XC L5 H5
            refine wpAnyK_ready (rs := [2, 6, 7]) (by kernel_rfl) (by simp) ?_
            refine AllReadyK.consL (i := 2) rfl (fun K hK => ?_) ?_
            · refine step_makeI tInts rfl rfl (n := N) rfl rfl HN1.out.1 HN1.out.2 ?_
              intro p2 wn hb hx hl
              have E25 : Hid (p2 ≠ p5) := by have h1 := H5.out.lt; show p2 ≠ p5; omega
              have L2 := Lib.hid (Nat.le_trans XC.out.size hl)
              replace H5 := Lib.hid (H5.out.ext hx)
              have H2 := Lib.hid hb
              replace XC := Lib.hid (XC.out.tr hx)
              clear hx hl hb
              refine hK.out _ _ (fun _ => trivial) (fun hHeld2 => ?_)
              clear hK K
              try clear hHeld
              have hHeld := hHeld2 (by decide)
              clear hHeld2
              try simp only [Act.put, List.setIfInBounds_toArray, List.set_cons_zero, List.set_cons_succ]
              clear hHeld
              obtain ⟨wy, rfl⟩ : ∃ W, W = wn := ⟨wn, rfl⟩
              revert H5
              revert H2
              revert E25
              revert L5
              revert L2
              revert XC
              revert p5
              revert p2
              revert wy
              exact k2_5.out
            refine AllReadyK.consL (i := 6) rfl (fun K hK => ?_) ?_
            · refine step_alloc1 rfl rfl Try.zeroValue22 rfl ?_
              intro p6 wn hb hx hl
              have E56 : Hid (p5 ≠ p6) := by have h1 := H5.out.lt; show p5 ≠ p6; omega
              have L6 := Lib.hid (Nat.le_trans XC.out.size hl)
              replace H5 := Lib.hid (H5.out.ext hx)
              have H6 := Lib.hid hb
              replace XC := Lib.hid (XC.out.tr hx)
              clear hx hl hb
              refine hK.out _ _ (fun _ => trivial) (fun hHeld2 => ?_)
              clear hK K
              try clear hHeld
              have hHeld := hHeld2 (by decide)
              clear hHeld2
              try simp only [Act.put, List.setIfInBounds_toArray, List.set_cons_zero, List.set_cons_succ]
              clear hHeld
              obtain ⟨wy, rfl⟩ : ∃ W, W = wn := ⟨wn, rfl⟩
              revert H6
              revert H5
              revert E56
              revert L6
              revert L5
              revert XC
              revert p6
              revert p5
              revert wy
              exact k5_6.out
            refine AllReadyK.consL (i := 7) rfl (fun K hK => ?_) ?_
            · refine step_alloc1 rfl rfl Try.zeroValue22 rfl ?_
              intro p7 wn hb hx hl
              have E57 : Hid (p5 ≠ p7) := by have h1 := H5.out.lt; show p5 ≠ p7; omega
              have L7 := Lib.hid (Nat.le_trans XC.out.size hl)
              replace H5 := Lib.hid (H5.out.ext hx)
              have H7 := Lib.hid hb
              replace XC := Lib.hid (XC.out.tr hx)
              clear hx hl hb
              refine hK.out _ _ (fun _ => trivial) (fun hHeld2 => ?_)
              clear hK K
              try clear hHeld
              have hHeld := hHeld2 (by decide)
              clear hHeld2
              try simp only [Act.put, List.setIfInBounds_toArray, List.set_cons_zero, List.set_cons_succ]
              clear hHeld
              obtain ⟨wy, rfl⟩ : ∃ W, W = wn := ⟨wn, rfl⟩
              revert H7
              revert H5
              revert E57
              revert L7
              revert L5
              revert XC
              revert p7
              revert p5
              revert wy
              exact k5_7.out
            · exact AllReadyK.nil
          · intro wy p2 XC L2 H2
            refine wpAnyK_ready (rs := [5, 6, 7]) (by kernel_rfl) (by simp) ?_
            refine AllReadyK.consL (i := 5) rfl (fun K hK => ?_) ?_
            · refine step_makeI tInts rfl rfl (n := N) rfl rfl HN1.out.1 HN1.out.2 ?_
              intro p5 wn hb hx hl
              have E25 : Hid (p2 ≠ p5) := by have h1 := H2.out.lt; show p2 ≠ p5; omega
              have L5 := Lib.hid (Nat.le_trans XC.out.size hl)
              replace H2 := Lib.hid (H2.out.ext hx)
              have H5 := Lib.hid hb
              replace XC := Lib.hid (XC.out.tr hx)
              clear hx hl hb
              refine hK.out _ _ (fun _ => trivial) (fun hHeld2 => ?_)
              clear hK K
              try clear hHeld
              have hHeld := hHeld2 (by decide)
              clear hHeld2
              try simp only [Act.put, List.setIfInBounds_toArray, List.set_cons_zero, List.set_cons_succ]
              clear hHeld
              obtain ⟨wy, rfl⟩ : ∃ W, W = wn := ⟨wn, rfl⟩
              revert H5
              revert H2
              revert E25
              revert L5
              revert L2
              revert XC
              revert p5
              revert p2
              revert wy
              exact k2_5.out
            refine AllReadyK.consL (i := 6) rfl (fun K hK => ?_) ?_
            · refine step_alloc1 rfl rfl Try.zeroValue22 rfl ?_
              intro p6 wn hb hx hl
              have E26 : Hid (p2 ≠ p6) := by have h1 := H2.out.lt; show p2 ≠ p6; omega
              have L6 := Lib.hid (Nat.le_trans XC.out.size hl)
              replace H2 := Lib.hid (H2.out.ext hx)
              have H6 := Lib.hid hb
              replace XC := Lib.hid (XC.out.tr hx)
              clear hx hl hb
              refine hK.out _ _ (fun _ => trivial) (fun hHeld2 => ?_)
              clear hK K
              try clear hHeld
              have hHeld := hHeld2 (by decide)
              clear hHeld2
              try simp only [Act.put, List.setIfInBounds_toArray, List.set_cons_zero, List.set_cons_succ]
              clear hHeld
              obtain ⟨wy, rfl⟩ : ∃ W, W = wn := ⟨wn, rfl⟩
              revert H6
              revert H2
              revert E26
              revert L6
              revert L2
              revert XC
              revert p6
              revert p2
              revert wy
              exact k2_6.out
            refine AllReadyK.consL (i := 7) rfl (fun K hK => ?_) ?_
            · refine step_alloc1 rfl rfl Try.zeroValue22 rfl ?_
              intro p7 wn hb hx hl
              have E27 : Hid (p2 ≠ p7) := by have h1 := H2.out.lt; show p2 ≠ p7; omega
              have L7 := Lib.hid (Nat.le_trans XC.out.size hl)
              replace H2 := Lib.hid (H2.out.ext hx)
              have H7 := Lib.hid hb
              replace XC := Lib.hid (XC.out.tr hx)
              clear hx hl hb
              refine hK.out _ _ (fun _ => trivial) (fun hHeld2 => ?_)
              clear hK K
              try clear hHeld
              have hHeld := hHeld2 (by decide)
              clear hHeld2
              try simp only [Act.put, List.setIfInBounds_toArray, List.set_cons_zero, List.set_cons_succ]
              clear hHeld
              obtain ⟨wy, rfl⟩ : ∃ W, W = wn := ⟨wn, rfl⟩
              revert H7
              revert H2
              revert E27
              revert L7
              revert L2
              revert XC
              revert p7
              revert p2
              revert wy
              exact k2_7.out
            · exact AllReadyK.nil
          · intro wy p6 p7 XC L6 L7 E67 H6 H7
            refine wpAnyK_ready (rs := [2, 5]) (by kernel_rfl) (by simp) ?_
            refine AllReadyK.consL (i := 2) rfl (fun K hK => ?_) ?_
            · refine step_makeI tInts rfl rfl (n := N) rfl rfl HN1.out.1 HN1.out.2 ?_
              intro p2 wn hb hx hl
              have E26 : Hid (p2 ≠ p6) := by have h1 := H6.out.lt; show p2 ≠ p6; omega
              have E27 : Hid (p2 ≠ p7) := by have h1 := H7.out.lt; show p2 ≠ p7; omega
              have L2 := Lib.hid (Nat.le_trans XC.out.size hl)
              replace H6 := Lib.hid (H6.out.ext hx)
              replace H7 := Lib.hid (H7.out.ext hx)
              have H2 := Lib.hid hb
              replace XC := Lib.hid (XC.out.tr hx)
              clear hx hl hb
              refine hK.out _ _ (fun _ => trivial) (fun hHeld2 => ?_)
              clear hK K
              try clear hHeld
              have hHeld := hHeld2 (by decide)
              clear hHeld2
              try simp only [Act.put, List.setIfInBounds_toArray, List.set_cons_zero, List.set_cons_succ]
              clear hHeld
              obtain ⟨wy, rfl⟩ : ∃ W, W = wn := ⟨wn, rfl⟩
              revert H7
              revert H6
              revert H2
              revert E67
              revert E27
              revert E26
              revert L7
              revert L6
              revert L2
              revert XC
              revert p7
              revert p6
              revert p2
              revert wy
              exact k2_6_7.out
            refine AllReadyK.consL (i := 5) rfl (fun K hK => ?_) ?_
            · refine step_makeI tInts rfl rfl (n := N) rfl rfl HN1.out.1 HN1.out.2 ?_
              intro p5 wn hb hx hl
              have E56 : Hid (p5 ≠ p6) := by have h1 := H6.out.lt; show p5 ≠ p6; omega
              have E57 : Hid (p5 ≠ p7) := by have h1 := H7.out.lt; show p5 ≠ p7; omega
              have L5 := Lib.hid (Nat.le_trans XC.out.size hl)
              replace H6 := Lib.hid (H6.out.ext hx)
              replace H7 := Lib.hid (H7.out.ext hx)
              have H5 := Lib.hid hb
              replace XC := Lib.hid (XC.out.tr hx)
              clear hx hl hb
              refine hK.out _ _ (fun _ => trivial) (fun hHeld2 => ?_)
              clear hK K
              try clear hHeld
              have hHeld := hHeld2 (by decide)
              clear hHeld2
              try simp only [Act.put, List.setIfInBounds_toArray, List.set_cons_zero, List.set_cons_succ]
              clear hHeld
              obtain ⟨wy, rfl⟩ : ∃ W, W = wn := ⟨wn, rfl⟩
              revert H7
              revert H6
              revert H5
              revert E67
              revert E57
              revert E56
              revert L7
              revert L6
              revert L5
              revert XC
              revert p7
              revert p6
              revert p5
              revert wy
              exact k5_6_7.out
            · exact AllReadyK.nil
          · intro wy p5 p7 XC L5 L7 E57 H5 H7
            refine wpAnyK_ready (rs := [2, 6]) (by kernel_rfl) (by simp) ?_
            refine AllReadyK.consL (i := 2) rfl (fun K hK => ?_) ?_
            · refine step_makeI tInts rfl rfl (n := N) rfl rfl HN1.out.1 HN1.out.2 ?_
              intro p2 wn hb hx hl
              have E25 : Hid (p2 ≠ p5) := by have h1 := H5.out.lt; show p2 ≠ p5; omega
              have E27 : Hid (p2 ≠ p7) := by have h1 := H7.out.lt; show p2 ≠ p7; omega
              have L2 := Lib.hid (Nat.le_trans XC.out.size hl)
              replace H5 := Lib.hid (H5.out.ext hx)
              replace H7 := Lib.hid (H7.out.ext hx)
              have H2 := Lib.hid hb
              replace XC := Lib.hid (XC.out.tr hx)
              clear hx hl hb
              refine hK.out _ _ (fun _ => trivial) (fun hHeld2 => ?_)
              clear hK K
              try clear hHeld
              have hHeld := hHeld2 (by decide)
              clear hHeld2
              try simp only [Act.put, List.setIfInBounds_toArray, List.set_cons_zero, List.set_cons_succ]
              clear hHeld
              obtain ⟨wy, rfl⟩ : ∃ W, W = wn := ⟨wn, rfl⟩
              revert H7
              revert H5
              revert H2
              revert E57
              revert E27
              revert E25
              revert L7
              revert L5
              revert L2
              revert XC
              revert p7
              revert p5
              revert p2
              revert wy
              exact k2_5_7.out
            refine AllReadyK.consL (i := 6) rfl (fun K hK => ?_) ?_
            · refine step_alloc1 rfl rfl Try.zeroValue22 rfl ?_
              intro p6 wn hb hx hl
              have E56 : Hid (p5 ≠ p6) := by have h1 := H5.out.lt; show p5 ≠ p6; omega
              have E67 : Hid (p6 ≠ p7) := by have h1 := H7.out.lt; show p6 ≠ p7; omega
              have L6 := Lib.hid (Nat.le_trans XC.out.size hl)
              replace H5 := Lib.hid (H5.out.ext hx)
              replace H7 := Lib.hid (H7.out.ext hx)
              have H6 := Lib.hid hb
              replace XC := Lib.hid (XC.out.tr hx)
              clear hx hl hb
              refine hK.out _ _ (fun _ => trivial) (fun hHeld2 => ?_)
              clear hK K
              try clear hHeld
              have hHeld := hHeld2 (by decide)
              clear hHeld2
              try simp only [Act.put, List.setIfInBounds_toArray, List.set_cons_zero, List.set_cons_succ]
              clear hHeld
              obtain ⟨wy, rfl⟩ : ∃ W, W = wn := ⟨wn, rfl⟩
              revert H7
              revert H6
              revert H5
              revert E67
              revert E57
              revert E56
              revert L7
              revert L6
              revert L5
              revert XC
              revert p7
              revert p6
              revert p5
              revert wy
              exact k5_6_7.out
            · exact AllReadyK.nil
          · intro wy p5 p6 XC L5 L6 E56 H5 H6
            refine wpAnyK_ready (rs := [2, 7]) (by kernel_rfl) (by simp) ?_
            refine AllReadyK.consL (i := 2) rfl (fun K hK => ?_) ?_
            · refine step_makeI tInts rfl rfl (n := N) rfl rfl HN1.out.1 HN1.out.2 ?_
              intro p2 wn hb hx hl
              have E25 : Hid (p2 ≠ p5) := by have h1 := H5.out.lt; show p2 ≠ p5; omega
              have E26 : Hid (p2 ≠ p6) := by have h1 := H6.out.lt; show p2 ≠ p6; omega
              have L2 := Lib.hid (Nat.le_trans XC.out.size hl)
              replace H5 := Lib.hid (H5.out.ext hx)
              replace H6 := Lib.hid (H6.out.ext hx)
              have H2 := Lib.hid hb
              replace XC := Lib.hid (XC.out.tr hx)
              clear hx hl hb
              refine hK.out _ _ (fun _ => trivial) (fun hHeld2 => ?_)
              clear hK K
              try clear hHeld
              have hHeld := hHeld2 (by decide)
              clear hHeld2
              try simp only [Act.put, List.setIfInBounds_toArray, List.set_cons_zero, List.set_cons_succ]
              clear hHeld
              obtain ⟨wy, rfl⟩ : ∃ W, W = wn := ⟨wn, rfl⟩
              revert H6
              revert H5
              revert H2
              revert E56
              revert E26
              revert E25
              revert L6
              revert L5
              revert L2
              revert XC
              revert p6
              revert p5
              revert p2
              revert wy
              exact k2_5_6.out
            refine AllReadyK.consL (i := 7) rfl (fun K hK => ?_) ?_
            · refine step_alloc1 rfl rfl Try.zeroValue22 rfl ?_
              intro p7 wn hb hx hl
              have E57 : Hid (p5 ≠ p7) := by have h1 := H5.out.lt; show p5 ≠ p7; omega
              have E67 : Hid (p6 ≠ p7) := by have h1 := H6.out.lt; show p6 ≠ p7; omega
              have L7 := Lib.hid (Nat.le_trans XC.out.size hl)
              replace H5 := Lib.hid (H5.out.ext hx)
              replace H6 := Lib.hid (H6.out.ext hx)
              have H7 := Lib.hid hb
              replace XC := Lib.hid (XC.out.tr hx)
              clear hx hl hb
              refine hK.out _ _ (fun _ => trivial) (fun hHeld2 => ?_)
              clear hK K
              try clear hHeld
              have hHeld := hHeld2 (by decide)
              clear hHeld2
              try simp only [Act.put, List.setIfInBounds_toArray, List.set_cons_zero, List.set_cons_succ]
              clear hHeld
              obtain ⟨wy, rfl⟩ : ∃ W, W = wn := ⟨wn, rfl⟩
              revert H7
              revert H6
              revert H5
              revert E67
              revert E57
              revert E56
              revert L7
              revert L6
              revert L5
              revert XC
              revert p7
              revert p6
              revert p5
              revert wy
              exact k5_6_7.out
            · exact AllReadyK.nil
          · intro wy p2 p7 XC L2 L7 E27 H2 H7
            refine wpAnyK_ready (rs := [5, 6]) (by kernel_rfl) (by simp) ?_
            refine AllReadyK.consL (i := 5) rfl (fun K hK => ?_) ?_
            · refine step_makeI tInts rfl rfl (n := N) rfl rfl HN1.out.1 HN1.out.2 ?_
              intro p5 wn hb hx hl
              have E25 : Hid (p2 ≠ p5) := by have h1 := H2.out.lt; show p2 ≠ p5; omega
              have E57 : Hid (p5 ≠ p7) := by have h1 := H7.out.lt; show p5 ≠ p7; omega
              have L5 := Lib.hid (Nat.le_trans XC.out.size hl)
              replace H2 := Lib.hid (H2.out.ext hx)
              replace H7 := Lib.hid (H7.out.ext hx)
              have H5 := Lib.hid hb
              replace XC := Lib.hid (XC.out.tr hx)
              clear hx hl hb
              refine hK.out _ _ (fun _ => trivial) (fun hHeld2 => ?_)
              clear hK K
              try clear hHeld
              have hHeld := hHeld2 (by decide)
              clear hHeld2
              try simp only [Act.put, List.setIfInBounds_toArray, List.set_cons_zero, List.set_cons_succ]
              clear hHeld
              obtain ⟨wy, rfl⟩ : ∃ W, W = wn := ⟨wn, rfl⟩
              revert H7
              revert H5
              revert H2
              revert E57
              revert E27
              revert E25
              revert L7
              revert L5
              revert L2
              revert XC
              revert p7
              revert p5
              revert p2
              revert wy
              exact k2_5_7.out
            refine AllReadyK.consL (i := 6) rfl (fun K hK => ?_) ?_
            · refine step_alloc1 rfl rfl Try.zeroValue22 rfl ?_
              intro p6 wn hb hx hl
              have E26 : Hid (p2 ≠ p6) := by have h1 := H2.out.lt; show p2 ≠ p6; omega
              have E67 : Hid (p6 ≠ p7) := by have h1 := H7.out.lt; show p6 ≠ p7; omega
              have L6 := Lib.hid (Nat.le_trans XC.out.size hl)
              replace H2 := Lib.hid (H2.out.ext hx)
              replace H7 := Lib.hid (H7.out.ext hx)
              have H6 := Lib.hid hb
              replace XC := Lib.hid (XC.out.tr hx)
              clear hx hl hb
              refine hK.out _ _ (fun _ => trivial) (fun hHeld2 => ?_)
              clear hK K
              try clear hHeld
              have hHeld := hHeld2 (by decide)
              clear hHeld2
              try simp only [Act.put, List.setIfInBounds_toArray, List.set_cons_zero, List.set_cons_succ]
              clear hHeld
              obtain ⟨wy, rfl⟩ : ∃ W, W = wn := ⟨wn, rfl⟩
              revert H7
              revert H6
              revert H2
              revert E67
              revert E27
              revert E26
              revert L7
              revert L6
              revert L2
              revert XC
              revert p7
              revert p6
              revert p2
              revert wy
              exact k2_6_7.out
            · exact AllReadyK.nil
          · intro wy p2 p6 XC L2 L6 E26 H2 H6
            refine wpAnyK_ready (rs := [5, 7]) (by kernel_rfl) (by simp) ?_
            refine AllReadyK.consL (i := 5) rfl (fun K hK => ?_) ?_
            · refine step_makeI tInts rfl rfl (n := N) rfl rfl HN1.out.1 HN1.out.2 ?_
              intro p5 wn hb hx hl
              have E25 : Hid (p2 ≠ p5) := by have h1 := H2.out.lt; show p2 ≠ p5; omega
              have E56 : Hid (p5 ≠ p6) := by have h1 := H6.out.lt; show p5 ≠ p6; omega
              have L5 := Lib.hid (Nat.le_trans XC.out.size hl)
              replace H2 := Lib.hid (H2.out.ext hx)
              replace H6 := Lib.hid (H6.out.ext hx)
              have H5 := Lib.hid hb
              replace XC := Lib.hid (XC.out.tr hx)
              clear hx hl hb
              refine hK.out _ _ (fun _ => trivial) (fun hHeld2 => ?_)
              clear hK K
              try clear hHeld
              have hHeld := hHeld2 (by decide)
              clear hHeld2
              try simp only [Act.put, List.setIfInBounds_toArray, List.set_cons_zero, List.set_cons_succ]
              clear hHeld
              obtain ⟨wy, rfl⟩ : ∃ W, W = wn := ⟨wn, rfl⟩
              revert H6
              revert H5
              revert H2
              revert E56
              revert E26
              revert E25
              revert L6
              revert L5
              revert L2
              revert XC
              revert p6
              revert p5
              revert p2
              revert wy
              exact k2_5_6.out
            refine AllReadyK.consL (i := 7) rfl (fun K hK => ?_) ?_
            · refine step_alloc1 rfl rfl Try.zeroValue22 rfl ?_
              intro p7 wn hb hx hl
              have E27 : Hid (p2 ≠ p7) := by have h1 := H2.out.lt; show p2 ≠ p7; omega
              have E67 : Hid (p6 ≠ p7) := by have h1 := H6.out.lt; show p6 ≠ p7; omega
              have L7 := Lib.hid (Nat.le_trans XC.out.size hl)
              replace H2 := Lib.hid (H2.out.ext hx)
              replace H6 := Lib.hid (H6.out.ext hx)
              have H7 := Lib.hid hb
              replace XC := Lib.hid (XC.out.tr hx)
              clear hx hl hb
              refine hK.out _ _ (fun _ => trivial) (fun hHeld2 => ?_)
              clear hK K
              try clear hHeld
              have hHeld := hHeld2 (by decide)
              clear hHeld2
              try simp only [Act.put, List.setIfInBounds_toArray, List.set_cons_zero, List.set_cons_succ]
              clear hHeld
              obtain ⟨wy, rfl⟩ : ∃ W, W = wn := ⟨wn, rfl⟩
              revert H7
              revert H6
              revert H2
              revert E67
              revert E27
              revert E26
              revert L7
              revert L6
              revert L2
              revert XC
              revert p7
              revert p6
              revert p2
              revert wy
              exact k2_6_7.out
            · exact AllReadyK.nil
          · intro wy p2 p5 XC L2 L5 E25 H2 H5
            refine wpAnyK_ready (rs := [6, 7]) (by kernel_rfl) (by simp) ?_
            refine AllReadyK.consL (i := 6) rfl (fun K hK => ?_) ?_
            · refine step_alloc1 rfl rfl Try.zeroValue22 rfl ?_
              intro p6 wn hb hx hl
              have E26 : Hid (p2 ≠ p6) := by have h1 := H2.out.lt; show p2 ≠ p6; omega
              have E56 : Hid (p5 ≠ p6) := by have h1 := H5.out.lt; show p5 ≠ p6; omega
              have L6 := Lib.hid (Nat.le_trans XC.out.size hl)
              replace H2 := Lib.hid (H2.out.ext hx)
              replace H5 := Lib.hid (H5.out.ext hx)
              have H6 := Lib.hid hb
              replace XC := Lib.hid (XC.out.tr hx)
              clear hx hl hb
              refine hK.out _ _ (fun _ => trivial) (fun hHeld2 => ?_)
              clear hK K
              try clear hHeld
              have hHeld := hHeld2 (by decide)
              clear hHeld2
              try simp only [Act.put, List.setIfInBounds_toArray, List.set_cons_zero, List.set_cons_succ]
              clear hHeld
              obtain ⟨wy, rfl⟩ : ∃ W, W = wn := ⟨wn, rfl⟩
              revert H6
              revert H5
              revert H2
              revert E56
              revert E26
              revert E25
              revert L6
              revert L5
              revert L2
              revert XC
              revert p6
              revert p5
              revert p2
              revert wy
              exact k2_5_6.out
            refine AllReadyK.consL (i := 7) rfl (fun K hK => ?_) ?_
            · refine step_alloc1 rfl rfl Try.zeroValue22 rfl ?_
              intro p7 wn hb hx hl
              have E27 : Hid (p2 ≠ p7) := by have h1 := H2.out.lt; show p2 ≠ p7; omega
              have E57 : Hid (p5 ≠ p7) := by have h1 := H5.out.lt; show p5 ≠ p7; omega
              have L7 := Lib.hid (Nat.le_trans XC.out.size hl)
              replace H2 := Lib.hid (H2.out.ext hx)
              replace H5 := Lib.hid (H5.out.ext hx)
              have H7 := Lib.hid hb
              replace XC := Lib.hid (XC.out.tr hx)
              clear hx hl hb
              refine hK.out _ _ (fun _ => trivial) (fun hHeld2 => ?_)
              clear hK K
              try clear hHeld
              have hHeld := hHeld2 (by decide)
              clear hHeld2
              try simp only [Act.put, List.setIfInBounds_toArray, List.set_cons_zero, List.set_cons_succ]
              clear hHeld
              obtain ⟨wy, rfl⟩ : ∃ W, W = wn := ⟨wn, rfl⟩
              revert H7
              revert H5
              revert H2
              revert E57
              revert E27
              revert E25
              revert L7
              revert L5
              revert L2
              revert XC
              revert p7
              revert p5
              revert p2
              revert wy
              exact k2_5_7.out
            · exact AllReadyK.nil
          · intro wy p5 p6 p7 XC L5 L6 L7 E56 E57 E67 H5 H6 H7
            refine wpAnyK_ready (rs := [2]) (by kernel_rfl) (by simp) ?_
            refine AllReadyK.consL (i := 2) rfl (fun K hK => ?_) ?_
            · refine step_makeI tInts rfl rfl (n := N) rfl rfl HN1.out.1 HN1.out.2 ?_
              intro p2 wn hb hx hl
              have E25 : Hid (p2 ≠ p5) := by have h1 := H5.out.lt; show p2 ≠ p5; omega
              have E26 : Hid (p2 ≠ p6) := by have h1 := H6.out.lt; show p2 ≠ p6; omega
              have E27 : Hid (p2 ≠ p7) := by have h1 := H7.out.lt; show p2 ≠ p7; omega
              have L2 := Lib.hid (Nat.le_trans XC.out.size hl)
              replace H5 := Lib.hid (H5.out.ext hx)
              replace H6 := Lib.hid (H6.out.ext hx)
              replace H7 := Lib.hid (H7.out.ext hx)
              have H2 := Lib.hid hb
              replace XC := Lib.hid (XC.out.tr hx)
              clear hx hl hb
              refine hK.out _ _ (fun _ => trivial) (fun hHeld2 => ?_)
              clear hK K
              try clear hHeld
              have hHeld := hHeld2 (by decide)
              clear hHeld2
              try simp only [Act.put, List.setIfInBounds_toArray, List.set_cons_zero, List.set_cons_succ]
              clear hHeld
              obtain ⟨wy, rfl⟩ : ∃ W, W = wn := ⟨wn, rfl⟩
              revert H7
              revert H6
              revert H5
              revert H2
              revert E67
              revert E57
              revert E56
              revert E27
              revert E26
              revert E25
              revert L7
              revert L6
              revert L5
              revert L2
              revert XC
              revert p7
              revert p6
              revert p5
              revert p2
              revert wy
              exact k2_5_6_7.out
            · exact AllReadyK.nil
          · intro wy p2 p6 p7 XC L2 L6 L7 E26 E27 E67 H2 H6 H7
            refine wpAnyK_ready (rs := [5, 8]) (by kernel_rfl) (by simp) ?_
            refine AllReadyK.consL (i := 5) rfl (fun K hK => ?_) ?_
            · refine step_makeI tInts rfl rfl (n := N) rfl rfl HN1.out.1 HN1.out.2 ?_
              intro p5 wn hb hx hl
              have E25 : Hid (p2 ≠ p5) := by have h1 := H2.out.lt; show p2 ≠ p5; omega
              have E56 : Hid (p5 ≠ p6) := by have h1 := H6.out.lt; show p5 ≠ p6; omega
              have E57 : Hid (p5 ≠ p7) := by have h1 := H7.out.lt; show p5 ≠ p7; omega
              have L5 := Lib.hid (Nat.le_trans XC.out.size hl)
              replace H2 := Lib.hid (H2.out.ext hx)
              replace H6 := Lib.hid (H6.out.ext hx)
              replace H7 := Lib.hid (H7.out.ext hx)
              have H5 := Lib.hid hb
              replace XC := Lib.hid (XC.out.tr hx)
              clear hx hl hb
              refine hK.out _ _ (fun _ => trivial) (fun hHeld2 => ?_)
              clear hK K
              try clear hHeld
              have hHeld := hHeld2 (by decide)
              clear hHeld2
              try simp only [Act.put, List.setIfInBounds_toArray, List.set_cons_zero, List.set_cons_succ]
              clear hHeld
              obtain ⟨wy, rfl⟩ : ∃ W, W = wn := ⟨wn, rfl⟩
              revert H7
              revert H6
              revert H5
              revert H2
              revert E67
              revert E57
              revert E56
              revert E27
              revert E26
              revert E25
              revert L7
              revert L6
              revert L5
              revert L2
              revert XC
              revert p7
              revert p6
              revert p5
              revert p2
              revert wy
              exact k2_5_6_7.out
            refine AllReadyK.consL (i := 8) rfl (fun K hK => ?_) ?_
            · refine step_setK (i := 0) (v := .slice (some ⟨p2, 0, none⟩) N N) rfl rfl H6.out rfl rfl (by show 0 < 1; omega) (by kernel_rfl) rfl (by simp [Value.oneCell']) ?_
              intro wn hw hb ho
              replace H2 := Lib.hid (H2.out.only ho (fun e => E26.out e))
              replace H7 := Lib.hid (H7.out.only ho (fun e => E67.out e.symm))
              have hb2 : Blk wn p6 #[.slice (some ⟨p2, 0, none⟩) N N] 22 := hb
              clear H6
              have H6 := Lib.hid hb2
              replace XC := Lib.hid (XC.out.then_only ho (fun k (e : k = p6) => by rw [e]; exact L6.out))
              clear ho hb hb2 hw
              refine hK.out _ _ (fun _ => trivial) (fun hHeld2 => ?_)
              clear hK K
              try clear hHeld
              have hHeld := hHeld2 (by decide)
              clear hHeld2
              try simp only [Act.put, List.setIfInBounds_toArray, List.set_cons_zero, List.set_cons_succ]
              clear hHeld
              obtain ⟨wy, rfl⟩ : ∃ W, W = wn := ⟨wn, rfl⟩
              revert H7
              revert H6
              revert H2
              revert E67
              revert E27
              revert E26
              revert L7
              revert L6
              revert L2
              revert XC
              revert p7
              revert p6
              revert p2
              revert wy
              exact k2_6_7_8.out
            · exact AllReadyK.nil
          · intro wy p2 p5 p7 XC L2 L5 L7 E25 E27 E57 H2 H5 H7
            refine wpAnyK_ready (rs := [6]) (by kernel_rfl) (by simp) ?_
            refine AllReadyK.consL (i := 6) rfl (fun K hK => ?_) ?_
            · refine step_alloc1 rfl rfl Try.zeroValue22 rfl ?_
              intro p6 wn hb hx hl
              have E26 : Hid (p2 ≠ p6) := by have h1 := H2.out.lt; show p2 ≠ p6; omega
              have E56 : Hid (p5 ≠ p6) := by have h1 := H5.out.lt; show p5 ≠ p6; omega
              have E67 : Hid (p6 ≠ p7) := by have h1 := H7.out.lt; show p6 ≠ p7; omega
              have L6 := Lib.hid (Nat.le_trans XC.out.size hl)
              replace H2 := Lib.hid (H2.out.ext hx)
              replace H5 := Lib.hid (H5.out.ext hx)
              replace H7 := Lib.hid (H7.out.ext hx)
              have H6 := Lib.hid hb
              replace XC := Lib.hid (XC.out.tr hx)
              clear hx hl hb
              refine hK.out _ _ (fun _ => trivial) (fun hHeld2 => ?_)
              clear hK K
              try clear hHeld
              have hHeld := hHeld2 (by decide)
              clear hHeld2
              try simp only [Act.put, List.setIfInBounds_toArray, List.set_cons_zero, List.set_cons_succ]
              clear hHeld
              obtain ⟨wy, rfl⟩ : ∃ W, W = wn := ⟨wn, rfl⟩
              revert H7
              revert H6
              revert H5
              revert H2
              revert E67
              revert E57
              revert E56
              revert E27
              revert E26
              revert E25
              revert L7
              revert L6
              revert L5
              revert L2
              revert XC
              revert p7
              revert p6
              revert p5
              revert p2
              revert wy
              exact k2_5_6_7.out
            · exact AllReadyK.nil
          · intro wy p2 p5 p6 XC L2 L5 L6 E25 E26 E56 H2 H5 H6
            refine wpAnyK_ready (rs := [7]) (by kernel_rfl) (by simp) ?_
            refine AllReadyK.consL (i := 7) rfl (fun K hK => ?_) ?_
            · refine step_alloc1 rfl rfl Try.zeroValue22 rfl ?_
              intro p7 wn hb hx hl
              have E27 : Hid (p2 ≠ p7) := by have h1 := H2.out.lt; show p2 ≠ p7; omega
              have E57 : Hid (p5 ≠ p7) := by have h1 := H5.out.lt; show p5 ≠ p7; omega
              have E67 : Hid (p6 ≠ p7) := by have h1 := H6.out.lt; show p6 ≠ p7; omega
              have L7 := Lib.hid (Nat.le_trans XC.out.size hl)
              replace H2 := Lib.hid (H2.out.ext hx)
              replace H5 := Lib.hid (H5.out.ext hx)
              replace H6 := Lib.hid (H6.out.ext hx)
              have H7 := Lib.hid hb
              replace XC := Lib.hid (XC.out.tr hx)
              clear hx hl hb
              refine hK.out _ _ (fun _ => trivial) (fun hHeld2 => ?_)
              clear hK K
              try clear hHeld
              have hHeld := hHeld2 (by decide)
              clear hHeld2
              try simp only [Act.put, List.setIfInBounds_toArray, List.set_cons_zero, List.set_cons_succ]
              clear hHeld
              obtain ⟨wy, rfl⟩ : ∃ W, W = wn := ⟨wn, rfl⟩
              revert H7
              revert H6
              revert H5
              revert H2
              revert E67
              revert E57
              revert E56
              revert E27
              revert E26
              revert E25
              revert L7
              revert L6
              revert L5
              revert L2
              revert XC
              revert p7
              revert p6
              revert p5
              revert p2
              revert wy
              exact k2_5_6_7.out
            · exact AllReadyK.nil
          · intro wy p2 p6 p7 XC L2 L6 L7 E26 E27 E67 H2 H6 H7
            refine wpAnyK_ready (rs := [5]) (by kernel_rfl) (by simp) ?_
            refine AllReadyK.consL (i := 5) rfl (fun K hK => ?_) ?_
            · refine step_makeI tInts rfl rfl (n := N) rfl rfl HN1.out.1 HN1.out.2 ?_
              intro p5 wn hb hx hl
              have E25 : Hid (p2 ≠ p5) := by have h1 := H2.out.lt; show p2 ≠ p5; omega
              have E56 : Hid (p5 ≠ p6) := by have h1 := H6.out.lt; show p5 ≠ p6; omega
              have E57 : Hid (p5 ≠ p7) := by have h1 := H7.out.lt; show p5 ≠ p7; omega
              have L5 := Lib.hid (Nat.le_trans XC.out.size hl)
              replace H2 := Lib.hid (H2.out.ext hx)
              replace H6 := Lib.hid (H6.out.ext hx)
              replace H7 := Lib.hid (H7.out.ext hx)
              have H5 := Lib.hid hb
              replace XC := Lib.hid (XC.out.tr hx)
              clear hx hl hb
              refine hK.out _ _ (fun _ => trivial) (fun hHeld2 => ?_)
              clear hK K
              try clear hHeld
              have hHeld := hHeld2 (by decide)
              clear hHeld2
              try simp only [Act.put, List.setIfInBounds_toArray, List.set_cons_zero, List.set_cons_succ]
              clear hHeld
              obtain ⟨wy, rfl⟩ : ∃ W, W = wn := ⟨wn, rfl⟩
              revert H7
              revert H6
              revert H5
              revert H2
              revert E67
              revert E57
              revert E56
              revert E27
              revert E26
              revert E25
              revert L7
              revert L6
              revert L5
              revert L2
              revert XC
              revert p7
              revert p6
              revert p5
              revert p2
              revert wy
              exact k2_5_6_7_8.out
            · exact AllReadyK.nil
          · intro wy p2 p5 p6 p7 XC L2 L5 L6 L7 E25 E26 E27 E56 E57 E67 H2 H5 H6 H7
            refine wpAnyK_ready (rs := [8]) (by kernel_rfl) (by simp) ?_
            refine AllReadyK.consL (i := 8) rfl (fun K hK => ?_) ?_
            · refine step_setK (i := 0) (v := .slice (some ⟨p2, 0, none⟩) N N) rfl rfl H6.out rfl rfl (by show 0 < 1; omega) (by kernel_rfl) rfl (by simp [Value.oneCell']) ?_
              intro wn hw hb ho
              replace H2 := Lib.hid (H2.out.only ho (fun e => E26.out e))
              replace H5 := Lib.hid (H5.out.only ho (fun e => E56.out e))
              replace H7 := Lib.hid (H7.out.only ho (fun e => E67.out e.symm))
              have hb2 : Blk wn p6 #[.slice (some ⟨p2, 0, none⟩) N N] 22 := hb
              clear H6
              have H6 := Lib.hid hb2
              replace XC := Lib.hid (XC.out.then_only ho (fun k (e : k = p6) => by rw [e]; exact L6.out))
              clear ho hb hb2 hw
              refine hK.out _ _ (fun _ => trivial) (fun hHeld2 => ?_)
              clear hK K
              try clear hHeld
              have hHeld := hHeld2 (by decide)
              clear hHeld2
              try simp only [Act.put, List.setIfInBounds_toArray, List.set_cons_zero, List.set_cons_succ]
              clear hHeld
              obtain ⟨wy, rfl⟩ : ∃ W, W = wn := ⟨wn, rfl⟩
              revert H7
              revert H6
              revert H5
              revert H2
              revert E67
              revert E57
              revert E56
              revert E27
              revert E26
              revert E25
              revert L7
              revert L6
              revert L5
              revert L2
              revert XC
              revert p7
              revert p6
              revert p5
              revert p2
              revert wy
              exact k2_5_6_7_8.out
            · exact AllReadyK.nil
          · intro wy p2 p5 p6 p7 XC L2 L5 L6 L7 E25 E26 E27 E56 E57 E67 H2 H5 H6 H7
            refine wpAnyK_ready (rs := [9]) (by kernel_rfl) (by simp) ?_
            refine AllReadyK.consL (i := 9) rfl (fun K hK => ?_) ?_
            · refine step_setK (i := 0) (v := .slice (some ⟨p5, 0, none⟩) N N) rfl rfl H7.out rfl rfl (by show 0 < 1; omega) (by kernel_rfl) rfl (by simp [Value.oneCell']) ?_
              intro wn hw hb ho
              replace H2 := Lib.hid (H2.out.only ho (fun e => E27.out e))
              replace H5 := Lib.hid (H5.out.only ho (fun e => E57.out e))
              replace H6 := Lib.hid (H6.out.only ho (fun e => E67.out e))
              have hb2 : Blk wn p7 #[.slice (some ⟨p5, 0, none⟩) N N] 22 := hb
              clear H7
              have H7 := Lib.hid hb2
              replace XC := Lib.hid (XC.out.then_only ho (fun k (e : k = p7) => by rw [e]; exact L7.out))
              clear ho hb hb2 hw
              refine hK.out _ _ (fun _ => trivial) (fun hHeld2 => ?_)
              clear hK K
              try clear hHeld
              have hHeld := hHeld2 (by decide)
              clear hHeld2
              try simp only [Act.put, List.setIfInBounds_toArray, List.set_cons_zero, List.set_cons_succ]
              clear hHeld
              obtain ⟨wy, rfl⟩ : ∃ W, W = wn := ⟨wn, rfl⟩
              revert H7
              revert H6
              revert H5
              revert H2
              revert E67
              revert E57
              revert E56
              revert E27
              revert E26
              revert E25
              revert L7
              revert L6
              revert L5
              revert L2
              revert XC
              revert p7
              revert p6
              revert p5
              revert p2
              revert wy
              exact k2_5_6_7_8_9.out
            · exact AllReadyK.nil
          · intro wy p2 p5 p6 p7 XC L2 L5 L6 L7 E25 E26 E27 E56 E57 E67 H2 H5 H6 H7
            refine wpAnyK_done (by kernel_rfl) ?_ _
            go_wp2
            go_meet
            case rel => exact ⟨p2, p5, p6, p7, rfl, rfl, XC.out, H6.out, H7.out, H2.out, H5.out, L2.out, L5.out, L6.out, L7.out, E25.out, E26.out, E27.out, E56.out, E57.out, E67.out⟩
      case rest =>
      obtain ⟨gs, gm, b8, b9, rfl, rfl, HCUT⟩ := hcut
      have HGM : Hid (GM w wc b8 b9 gs gm N (tab l 0).1 (tab l 0).2) := by
        obtain ⟨hx, h1, h2, h3, h4, l1, l2, l3, l4, n1, n2, n3, n4, n5, n6⟩ := HCUT.out
        have := X.out.size
        have e : tab l 0 = (List.replicate N 0, List.replicate N 0) := by rw [HNL.out]; rfl
        rw [e]
        exact ⟨h1, h2, h3, h4, by simp, by simp, ⟨by omega, by omega, by omega, by omega⟩, ⟨n1, n2, n3, n4, n5, n6⟩, X.out.tr hx⟩
      clear HCUT X
      obtain ⟨W0, hW0⟩ : ∃ W, W = wc := ⟨wc, rfl⟩
      have HW0 : Hid (w.heap.size ≤ W0.heap.size ∧ b8 < W0.heap.size ∧ b9 < W0.heap.size ∧ gs < W0.heap.size ∧ gm < W0.heap.size) := by
        rw [hW0]; exact ⟨HGM.out.x.size, HGM.out.h8.lt, HGM.out.h9.lt, HGM.out.hs.lt, HGM.out.hm.lt⟩
      have XW : Hid (Ext W0 wc) := by rw [hW0]; exact Below.refl _ _
      clear hW0
      go_upto_region 17 with (first
        | (with_reducible refine wpList_alloc1 rfl rfl Try.zeroValue3 rfl ?_
           rintro xb w6 hb6 hx6 hl6
           have hgm := HGM.out.ext hx6
           have lx := Nat.le_trans XW.out.size hl6
           clear HGM
           have XB := Lib.hid hb6
           have HGM := Lib.hid hgm
           have LX := Lib.hid lx
           clear hb6 hgm lx
           clear hx6 hl6)
        | (with_reducible refine wpList_setK (i := 0) (v := .int .i64 1) rfl rfl XB.out ?_ ?_ ?_ ?_ ?_ ?_ ?_
           · rfl
           · rfl
           · show 0 < 1; omega
           · kernel_rfl
           · rfl
           · rfl
           rintro w7 hb7 ho7
           have hb8 : Blk w7 xb #[.int .i64 ((1 : Nat) : Int)] 3 := hb7
           have lx := LX.out
           have hw0 := HW0.out
           have hgm := HGM.out.only ho7 ⟨by omega, by omega, by omega, by omega⟩ (by omega)
           clear HGM XB hb7 ho7 lx hw0
           have XB := Lib.hid hb8
           have HGM := Lib.hid hgm
           clear hb8 hgm))
      simp only [Act.put, List.setIfInBounds_toArray, List.set_cons_zero, List.set_cons_succ]
      refine wp_loop (fun a' W => ∃ (k xb : Nat) (Ds : List Nat) (u1 u2 u3 u4 u5 u6 u11 u12 u13 u14 u15 u16 u17 u18 u19 u20 u21 u22 u23 u24 u25 u26 u27 u28 u29 u30 u31 u32 u33 u34 u35 u36 u37 u38 u39 u40 u41 u42 u43 u44 u45 u46 u47 u48 u49 u50 u51 u52 u53 u54 u55 u56 u57 u58 u59 u60 u61 u62 u63 u64 u65 u66 u67 u68 u69 u70 u71 u72 u73 u74 u75 u76 u77 u78 u79 u80 u81 u82 u83 u84 u85 u86 u87 u88 u89 u90 u91 u92 u93 u94 u95 u96 u97 u98 u99 u100 u101 u102 u103 u104 u105 u106 u107 u108 u109 u110 u111 u112 u113 u114 u115 u116 u117 u118 u119 u120 u121 u122 u123 u124 : Value), 1 ≤ k ∧ k ≤ N ∧ Hid (LI l w W0 b8 b9 gs gm N k xb Ds W) ∧ Hid (Small (k * 10000000000) (tab l (k - 1)).1 ∧ Small k (tab l (k - 1)).2) ∧ a' = { tmps := #[.slice al l.length cl, u1, u2, u3, u4, u5, u6, .int .i64 (A : Int), .pointer (some ⟨b8, 0, none⟩), .pointer (some ⟨b9, 0, none⟩), .pointer (some ⟨xb, 0, none⟩), u11, u12, u13, u14, u15, u16, u17, u18, u19, u20, u21, u22, u23, u24, u25, u26, u27, u28, u29, u30, u31, u32, u33, u34, u35, u36, u37, u38, u39, u40, u41, u42, u43, u44, u45, u46, u47, u48, u49, u50, u51, u52, u53, u54, u55, u56, u57, u58, u59, u60, u61, u62, u63, u64, u65, u66, u67, u68, u69, u70, u71, u72, u73, u74, u75, u76, u77, u78, u79, u80, u81, u82, u83, u84, u85, u86, u87, u88, u89, u90, u91, u92, u93, u94, u95, u96, u97, u98, u99, u100, u101, u102, u103, u104, u105, u106, u107, u108, u109, u110, u111, u112, u113, u114, u115, u116, u117, u118, u119, u120, u121, u122, u123, u124, undef, undef, undef, undef, undef, undef, undef, undef, undef, undef, undef, undef, undef, undef, undef, undef, undef, undef, undef, undef, undef, undef, undef, undef, undef, undef, undef, undef, undef, undef, undef, undef, undef, undef, undef, undef, undef, undef, undef, undef, undef, undef, undef, undef, undef, undef, undef, undef, undef, undef, undef, undef, undef, undef, undef, undef, undef, undef, undef, undef, undef, undef, undef, undef, undef, undef, undef, undef, undef, undef, undef, undef, undef, undef, undef], defers := marks Ds }) (fun a' W => N - boxN 10 a' W) ?_ ?_
      case refine_1 => exact ⟨1, xb, [], _, _, _, _, _, _, _, _, _, _, _, _, _, _, _, _, _, _, _, _, _, _, _, _, _, _, _, _, _, _, _, _, _, _, _, _, _, _, _, _, _, _, _, _, _, _, _, _, _, _, _, _, _, _, _, _, _, _, _, _, _, _, _, _, _, _, _, _, _, _, _, _, _, _, _, _, _, _, _, _, _, _, _, _, _, _, _, _, _, _, _, _, _, _, _, _, _, _, _, _, _, _, _, _, _, _, _, _, _, _, _, _, _, _, _, _, _, _, _, _, Nat.le_refl _, by omega, ⟨⟨HGM.out, fun D hD => by cases hD⟩, XB.out, LX.out, List.nodup_nil⟩, ⟨fun x hx => by have := List.eq_of_mem_replicate hx; omega, fun x hx => by have := List.eq_of_mem_replicate hx; omega⟩, rfl⟩
      case refine_2 =>
        clear HGM XB LX XW
        obtain ⟨wl, hwl⟩ : ∃ W, W = w7 := ⟨_, rfl⟩
        clear hwl
        intro a1 wr hinv
        obtain ⟨k, xb, Ds, hinv⟩ := hinv
        obtain ⟨u1, hinv⟩ := hinv
        obtain ⟨u2, hinv⟩ := hinv
        obtain ⟨u3, hinv⟩ := hinv
        obtain ⟨u4, hinv⟩ := hinv
        obtain ⟨u5, hinv⟩ := hinv
        obtain ⟨u6, hinv⟩ := hinv
        obtain ⟨u11, hinv⟩ := hinv
        obtain ⟨u12, hinv⟩ := hinv
        obtain ⟨u13, hinv⟩ := hinv
        obtain ⟨u14, hinv⟩ := hinv
        obtain ⟨u15, hinv⟩ := hinv
        obtain ⟨u16, hinv⟩ := hinv
        obtain ⟨u17, hinv⟩ := hinv
        obtain ⟨u18, hinv⟩ := hinv
        obtain ⟨u19, hinv⟩ := hinv
        obtain ⟨u20, hinv⟩ := hinv
        obtain ⟨u21, hinv⟩ := hinv
        obtain ⟨u22, hinv⟩ := hinv
        obtain ⟨u23, hinv⟩ := hinv
        obtain ⟨u24, hinv⟩ := hinv
        obtain ⟨u25, hinv⟩ := hinv
        obtain ⟨u26, hinv⟩ := hinv
        obtain ⟨u27, hinv⟩ := hinv
        obtain ⟨u28, hinv⟩ := hinv
        obtain ⟨u29, hinv⟩ := hinv
        obtain ⟨u30, hinv⟩ := hinv
        obtain ⟨u31, hinv⟩ := hinv
        obtain ⟨u32, hinv⟩ := hinv
        obtain ⟨u33, hinv⟩ := hinv
        obtain ⟨u34, hinv⟩ := hinv
        obtain ⟨u35, hinv⟩ := hinv
        obtain ⟨u36, hinv⟩ := hinv
        obtain ⟨u37, hinv⟩ := hinv
        obtain ⟨u38, hinv⟩ := hinv
        obtain ⟨u39, hinv⟩ := hinv
        obtain ⟨u40, hinv⟩ := hinv
        obtain ⟨u41, hinv⟩ := hinv
        obtain ⟨u42, hinv⟩ := hinv
        obtain ⟨u43, hinv⟩ := hinv
        obtain ⟨u44, hinv⟩ := hinv
        obtain ⟨u45, hinv⟩ := hinv
        obtain ⟨u46, hinv⟩ := hinv
        obtain ⟨u47, hinv⟩ := hinv
        obtain ⟨u48, hinv⟩ := hinv
        obtain ⟨u49, hinv⟩ := hinv
        obtain ⟨u50, hinv⟩ := hinv
        obtain ⟨u51, hinv⟩ := hinv
        obtain ⟨u52, hinv⟩ := hinv
        obtain ⟨u53, hinv⟩ := hinv
        obtain ⟨u54, hinv⟩ := hinv
        obtain ⟨u55, hinv⟩ := hinv
        obtain ⟨u56, hinv⟩ := hinv
        obtain ⟨u57, hinv⟩ := hinv
        obtain ⟨u58, hinv⟩ := hinv
        obtain ⟨u59, hinv⟩ := hinv
        obtain ⟨u60, hinv⟩ := hinv
        obtain ⟨u61, hinv⟩ := hinv
        obtain ⟨u62, hinv⟩ := hinv
        obtain ⟨u63, hinv⟩ := hinv
        obtain ⟨u64, hinv⟩ := hinv
        obtain ⟨u65, hinv⟩ := hinv
        obtain ⟨u66, hinv⟩ := hinv
        obtain ⟨u67, hinv⟩ := hinv
        obtain ⟨u68, hinv⟩ := hinv
        obtain ⟨u69, hinv⟩ := hinv
        obtain ⟨u70, hinv⟩ := hinv
        obtain ⟨u71, hinv⟩ := hinv
        obtain ⟨u72, hinv⟩ := hinv
        obtain ⟨u73, hinv⟩ := hinv
        obtain ⟨u74, hinv⟩ := hinv
        obtain ⟨u75, hinv⟩ := hinv
        obtain ⟨u76, hinv⟩ := hinv
        obtain ⟨u77, hinv⟩ := hinv
        obtain ⟨u78, hinv⟩ := hinv
        obtain ⟨u79, hinv⟩ := hinv
        obtain ⟨u80, hinv⟩ := hinv
        obtain ⟨u81, hinv⟩ := hinv
        obtain ⟨u82, hinv⟩ := hinv
        obtain ⟨u83, hinv⟩ := hinv
        obtain ⟨u84, hinv⟩ := hinv
        obtain ⟨u85, hinv⟩ := hinv
        obtain ⟨u86, hinv⟩ := hinv
        obtain ⟨u87, hinv⟩ := hinv
        obtain ⟨u88, hinv⟩ := hinv
        obtain ⟨u89, hinv⟩ := hinv
        obtain ⟨u90, hinv⟩ := hinv
        obtain ⟨u91, hinv⟩ := hinv
        obtain ⟨u92, hinv⟩ := hinv
        obtain ⟨u93, hinv⟩ := hinv
        obtain ⟨u94, hinv⟩ := hinv
        obtain ⟨u95, hinv⟩ := hinv
        obtain ⟨u96, hinv⟩ := hinv
        obtain ⟨u97, hinv⟩ := hinv
        obtain ⟨u98, hinv⟩ := hinv
        obtain ⟨u99, hinv⟩ := hinv
        obtain ⟨u100, hinv⟩ := hinv
        obtain ⟨u101, hinv⟩ := hinv
        obtain ⟨u102, hinv⟩ := hinv
        obtain ⟨u103, hinv⟩ := hinv
        obtain ⟨u104, hinv⟩ := hinv
        obtain ⟨u105, hinv⟩ := hinv
        obtain ⟨u106, hinv⟩ := hinv
        obtain ⟨u107, hinv⟩ := hinv
        obtain ⟨u108, hinv⟩ := hinv
        obtain ⟨u109, hinv⟩ := hinv
        obtain ⟨u110, hinv⟩ := hinv
        obtain ⟨u111, hinv⟩ := hinv
        obtain ⟨u112, hinv⟩ := hinv
        obtain ⟨u113, hinv⟩ := hinv
        obtain ⟨u114, hinv⟩ := hinv
        obtain ⟨u115, hinv⟩ := hinv
        obtain ⟨u116, hinv⟩ := hinv
        obtain ⟨u117, hinv⟩ := hinv
        obtain ⟨u118, hinv⟩ := hinv
        obtain ⟨u119, hinv⟩ := hinv
        obtain ⟨u120, hinv⟩ := hinv
        obtain ⟨u121, hinv⟩ := hinv
        obtain ⟨u122, hinv⟩ := hinv
        obtain ⟨u123, hinv⟩ := hinv
        obtain ⟨u124, hinv⟩ := hinv
        obtain ⟨hk1, hkN, HLI, HSM2, rfl⟩ := hinv
        dsimp only
        obtain ⟨hgm, hxb, hlx, hnd⟩ := HLI.out
        have HXB0 := Lib.hid hxb
        have HND := Lib.hid hnd
        clear hnd HLI
        have x0 := hxb.cell 0
        by_cases hlt : k < N
        · skip
          have hkA : (k:Int) ≤ (A:Int) := by omega
          have hk1024 : k < 1024 := by omega
          have hlow := low_i64 k hk1024
          have hlw1 := lowN_le k
          have hlw0 := lowN_pos k hk1024 hk1
          obtain ⟨f, hf⟩ : ∃ f, f = lowN k := ⟨_, rfl⟩
          rw [← hf] at hlow hlw1 hlw0
          have HF := Lib.hid hf
          have GMH := Lib.hid hgm
          have XB := Lib.hid hxb
          have LX := Lib.hid hlx
          clear hgm hxb hlx
          clear hf
          go_upto_region 21 with (first
            | (with_reducible refine wpList_alloc1 rfl rfl Try.zeroValue3 rfl ?_
               rintro yb w7 hb7 hx7 hl7
               have hgm := GMH.out.ext hx7
               have hxb := XB.out.ext hx7
               have ly : xb < yb := Nat.lt_of_lt_of_le XB.out.lt hl7
               clear GMH XB
               have YB := Lib.hid hb7
               have GMH := Lib.hid hgm
               have XB := Lib.hid hxb
               have LY := Lib.hid ly
               clear hb7 hgm hxb ly
               clear hx7 hl7)
            | (with_reducible refine wpList_setK (i := 0) (v := .int .i64 (f : Int)) rfl rfl YB.out ?_ ?_ ?_ ?_ ?_ ?_ ?_
               · rfl
               · rfl
               · show 0 < 1; omega
               · kernel_rfl
               · rfl
               · rfl
               rintro w8 hb8' ho8
               have hb9' : Blk w8 yb #[.int .i64 (f : Int)] 3 := hb8'
               have lx := LX.out
               have ly := LY.out
               have hw0 := HW0.out
               have hgm := GMH.out.only ho8 YB.out ⟨by omega, by omega, by omega, by omega⟩ (by omega)
               have hxb := XB.out.only ho8 (by omega)
               clear GMH YB XB hb8' ho8 lx ly hw0
               have YB := Lib.hid hb9'
               have GMH := Lib.hid hgm
               have XB := Lib.hid hxb
               clear hb9' hgm hxb))
          obtain ⟨S0, hS0⟩ : ∃ S, S = (tab l (k - 1)).1 := ⟨_, rfl⟩
          obtain ⟨M0, hM0⟩ : ∃ S, S = (tab l (k - 1)).2 := ⟨_, rfl⟩
          rw [← hS0, ← hM0] at HSM2 GMH
          have HS0 := Lib.hid hS0
          have HM0 := Lib.hid hM0
          clear hS0 hM0
          clear x0 hlow
          go_loopw [66] (fun t wr => ∃ i : Nat, i ≤ l.length ∧ t = .int .i64 i ∧ Hid (GD w wr b8 b9 gs gm N (sRow l k i S0) M0 W0.heap.size Ds ∧ Blk wr xb #[.int .i64 (k : Int)] 3 ∧ Blk wr yb #[.int .i64 (f : Int)] 3) ∧ Hid (Small (k * 10000000000 + i * 1000000000) (sRow l k i S0))) (fun t _ => l.length - (intOf t).toNat)
          case atStart => exact ⟨0, Nat.zero_le _, rfl, ⟨GMH.out, XB.out, YB.out⟩, by have := HSM2.out.1; show Small _ (sRow l k 0 S0); exact this.mono (by omega)⟩
          case round =>
            clear GMH XB YB
            obtain ⟨i, hin, rfl, HR, HSB⟩ := hrel
            obtain ⟨hgm, hxb, hyb⟩ := HR.out
            by_cases hil : i < l.length
            · obtain ⟨b, o, rfl, hc⟩ := HV.out.cells (by omega)
              have c0 := hgm.g.x.cellSome (hc i hil)
              have hub := badN_ok HBN.out l[i] (List.getElem_mem hil)
              have hgl := gI_get hil
              have y0 := hyb.cell 0
              have j1 : (0:Int) ≤ (i:Int) := by omega
              have j2 : (i:Int) < (l.length:Int) := by omega
              have hsu := sRow_succ l k i S0
              have hsh := shl_i64 i (by omega)
              obtain ⟨u, hu⟩ : ∃ u, u = l[i] := ⟨_, rfl⟩
              rw [← hu] at c0 hub hgl
              have GMH := Lib.hid hgm
              have XB := Lib.hid hxb
              have YB := Lib.hid hyb
              have HGL := Lib.hid hgl
              have HSU := Lib.hid hsu
              clear hgm hxb hyb hgl hsu
              clear hc hu HR
              by_cases hfi : f = 2 ^ i
              · have he : ((f : Int) == wrap64 ((2:Int) ^ i)) = true := by rw [hsh, hfi]; simp
                have HFI := Lib.hid hfi
                clear hfi hsh
                go_upto_region 23 with (fail)
                go_quiet (fail)
                have hxq : Ext wr (wr.drewN nq) := Ext.of_drewN _ _
                replace GMH := Lib.hid (GMH.out.ext hxq)
                replace XB := Lib.hid (XB.out.ext hxq)
                replace YB := Lib.hid (YB.out.ext hxq)
                generalize wr.drewN nq = wq at *
                clear hxq y0 c0
                go_upto_region 24 with (fail)
                as_aux_lemma =>
                  have hxd : Ext wq wq.drew := (Below.refl _ wq).drew
                  have hzN : k ^^^ f < N := by
                    have h1 := HNL.out
                    rw [h1]
                    exact Nat.xor_lt_two_pow (by rw [← h1]; exact hlt) (by rw [← h1]; omega)
                  have hxor := xor_i64 k f (by omega) (by omega)
                  obtain ⟨z, hz⟩ : ∃ z, z = k ^^^ f := ⟨_, rfl⟩
                  rw [← hz] at hzN hxor
                  have hgm := GMH.out.ext hxd
                  have hxb := XB.out.ext hxd
                  have hyb := YB.out.ext hxd
                  have cz := hgm.g.cS hzN
                  have hsv := gI_small HSB.out (by omega) z
                  obtain ⟨v, hv⟩ : ∃ v, v = gI (sRow l k i S0) z := ⟨_, rfl⟩
                  rw [← hv] at cz hsv
                  have hnew : (sRow l k i S0).set k (v + u) = sRow l k (i + 1) S0 := by
                    rw [HSU.out]
                    unfold sStep
                    rw [← HF.out, if_pos HFI.out, HGL.out, hv, hz]
                  have hwr : IntKind.i64.wrap (v + u) = v + u := i64_eq _ ⟨by omega, by omega⟩
                  have hsm3 : Small (k * 10000000000 + ((i + 1 : Nat) : Int) * 1000000000) (sRow l k (i + 1) S0) := by
                    rw [← hnew]
                    exact (HSB.out.mono (by push_cast; omega)).set ⟨by push_cast; omega, by push_cast; omega⟩ k
                  have z1 : (0:Int) ≤ (z:Int) := by omega
                  have z2 : (z:Int) < (N:Int) := by omega
                  have k1 : (0:Int) ≤ (k:Int) := by omega
                  have k2 : (k:Int) < (N:Int) := by omega
                  have HSZ := Lib.hid (show k < (iA (sRow l k i S0)).size by rw [iA_size, hgm.g.ls]; exact hlt)
                  refine wp_region_K (fun wx => wx.cell? ⟨b8, 0, none⟩ = some (.slice (some ⟨gs, 0, none⟩) N N) ∧ wx.cell? ⟨xb, 0, none⟩ = some (.int .i64 (k : Int)) ∧ wx.cell? ⟨yb, 0, none⟩ = some (.int .i64 (f : Int)) ∧ wx.cell? ⟨gs, z, none⟩ = some (.int .i64 v)) 11 (by kernel_rfl) ⟨hgm.g.h8.cell 0, hxb.cell 0, hyb.cell 0, cz⟩ (fun hHeld => ?_)
                  have HWV := Lib.hid hwr
                  have HNEW := Lib.hid hnew
                  have HS3 := Lib.hid hsm3
                  generalize wq.drew = wA at *
                  clear GMH XB YB hv hz hnew hwr hsm3 hxd cz hsv
                  have GMH := Lib.hid hgm
                  have XB := Lib.hid hxb
                  have YB := Lib.hid hyb
                  clear hgm hxb hyb
                  refine wpAnyK_takeL (i := 0) (v := ?_) rfl (by kernel_rfl) (by kernel_rfl) (by kernel_rfl) (by kernel_rfl) (fun _ _ _ h => hQ19 (by decide) h) (Or.inl ⟨by rfl, ?_⟩) hHeld ?_
                  rotate_left
                  · intro w hSw; (try dsimp only at hSw); go_simp; (try with_reducible rfl)
                  try simp only [Act.put, List.setIfInBounds_toArray, List.set_cons_zero, List.set_cons_succ]
                  refine wpAnyK_takeL (i := 1) (v := ?_) rfl (by kernel_rfl) (by kernel_rfl) (by kernel_rfl) (by kernel_rfl) (fun _ _ _ h => hQ19 (by decide) h) (Or.inl ⟨by rfl, ?_⟩) hHeld ?_
                  rotate_left
                  · intro w hSw; (try dsimp only at hSw); go_simp; (try with_reducible rfl)
                  try simp only [Act.put, List.setIfInBounds_toArray, List.set_cons_zero, List.set_cons_succ]
                  refine wpAnyK_takeL (i := 2) (v := ?_) rfl (by kernel_rfl) (by kernel_rfl) (by kernel_rfl) (by kernel_rfl) (fun _ _ _ h => hQ19 (by decide) h) (Or.inl ⟨by rfl, ?_⟩) hHeld ?_
                  rotate_left
                  · intro w hSw; (try dsimp only at hSw); go_simp; (try with_reducible rfl)
                  try simp only [Act.put, List.setIfInBounds_toArray, List.set_cons_zero, List.set_cons_succ]
                  refine wpAnyK_takeL (i := 3) (v := ?_) rfl (by kernel_rfl) (by kernel_rfl) (by kernel_rfl) (by kernel_rfl) (fun _ _ _ h => hQ19 (by decide) h) (Or.inl ⟨by rfl, ?_⟩) hHeld ?_
                  rotate_left
                  · intro w hSw; (try dsimp only at hSw); go_simp; (try with_reducible rfl)
                  try simp only [Act.put, List.setIfInBounds_toArray, List.set_cons_zero, List.set_cons_succ]
                  refine wpAnyK_takeL (i := 4) (v := ?_) rfl (by kernel_rfl) (by kernel_rfl) (by kernel_rfl) (by kernel_rfl) (fun _ _ _ h => hQ19 (by decide) h) (Or.inl ⟨by rfl, ?_⟩) hHeld ?_
                  rotate_left
                  · intro w hSw; (try dsimp only at hSw); go_simp; (try with_reducible rfl)
                  try simp only [Act.put, List.setIfInBounds_toArray, List.set_cons_zero, List.set_cons_succ]
                  refine wpAnyK_takeL (i := 5) (v := ?_) rfl (by kernel_rfl) (by kernel_rfl) (by kernel_rfl) (by kernel_rfl) (fun _ _ _ h => hQ19 (by decide) h) (Or.inl ⟨by rfl, ?_⟩) hHeld ?_
                  rotate_left
                  · intro w hSw; (try dsimp only at hSw); go_simp; (try with_reducible rfl)
                  try simp only [Act.put, List.setIfInBounds_toArray, List.set_cons_zero, List.set_cons_succ]
                  refine wpAnyK_takeL (i := 6) (v := ?_) rfl (by kernel_rfl) (by kernel_rfl) (by kernel_rfl) (by kernel_rfl) (fun _ _ _ h => hQ19 (by decide) h) (Or.inl ⟨by rfl, ?_⟩) hHeld ?_
                  rotate_left
                  · intro w hSw; (try dsimp only at hSw); go_simp; (try with_reducible rfl)
                  try simp only [Act.put, List.setIfInBounds_toArray, List.set_cons_zero, List.set_cons_succ]
                  refine wpAnyK_takeL (i := 7) (v := ?_) rfl (by kernel_rfl) (by kernel_rfl) (by kernel_rfl) (by kernel_rfl) (fun _ _ _ h => hQ19 (by decide) h) (Or.inl ⟨by rfl, ?_⟩) hHeld ?_
                  rotate_left
                  · intro w hSw; (try dsimp only at hSw); go_simp; (try with_reducible rfl)
                  try simp only [Act.put, List.setIfInBounds_toArray, List.set_cons_zero, List.set_cons_succ]
                  refine wpAnyK_takeL (i := 8) (v := ?_) rfl (by kernel_rfl) (by kernel_rfl) (by kernel_rfl) (by kernel_rfl) (fun _ _ _ h => hQ19 (by decide) h) (Or.inl ⟨by rfl, ?_⟩) hHeld ?_
                  rotate_left
                  · intro w hSw; (try dsimp only at hSw); go_simp; (try with_reducible rfl)
                  try simp only [Act.put, List.setIfInBounds_toArray, List.set_cons_zero, List.set_cons_succ]
                  refine wpAnyK_takeL (i := 9) (v := ?_) rfl (by kernel_rfl) (by kernel_rfl) (by kernel_rfl) (by kernel_rfl) (fun _ _ _ h => hQ19 (by decide) h) (Or.inl ⟨by rfl, ?_⟩) hHeld ?_
                  rotate_left
                  · intro w hSw; (try dsimp only at hSw); go_simp; (try with_reducible rfl)
                  try simp only [Act.put, List.setIfInBounds_toArray, List.set_cons_zero, List.set_cons_succ]
                  refine wpAnyK_takeL (i := 10) (v := ?_) rfl (by kernel_rfl) (by kernel_rfl) (by kernel_rfl) (by kernel_rfl) (fun _ _ _ h => hQ19 (by decide) h) (Or.inl ⟨by rfl, ?_⟩) hHeld ?_
                  rotate_left
                  · intro w hSw; (try dsimp only at hSw); go_simp; (try with_reducible rfl)
                  try simp only [Act.put, List.setIfInBounds_toArray, List.set_cons_zero, List.set_cons_succ]
                  clear hHeld
                  refine wpAnyK_ready (rs := [11]) (by kernel_rfl) (by simp) ?_
                  refine AllReadyK.consL (i := 11) rfl (fun K hK => ?_) ?_
                  · refine step_setK (i := k) (v := .int .i64 (IntKind.i64.wrap (v + u))) rfl rfl GMH.out.g.hs rfl rfl HSZ.out (by kernel_rfl) rfl (by simp [Value.oneCell']) ?_
                    intro wB hw1 hb1 ho1
                    rw [HWV.out, iA_set, HNEW.out] at hb1
                    refine hK.out _ _ (fun h => absurd h (by decide)) (fun hHeld2 => ?_)
                    clear hK K hHeld2
                    try clear hHeld
                    try simp only [Act.put, List.setIfInBounds_toArray, List.set_cons_zero, List.set_cons_succ]
                    refine wpAnyK_done (by kernel_rfl) ?_ _
                    have hgm2 := GMH.out.setS (S' := sRow l k (i + 1) S0) (by rw [sRow_len, sRow_len]) hb1 ho1
                    have hw0 := HW0.out
                    have hlx := LX.out
                    have hly := LY.out
                    have hxb2 := XB.out.only ho1 (by omega)
                    have hyb2 := YB.out.only ho1 (by omega)
                    clear GMH XB YB ho1 hb1 hw1 hw0 hlx hly hxor z1 z2 k1 k2
                    have GMH := Lib.hid hgm2
                    have XB := Lib.hid hxb2
                    have YB := Lib.hid hyb2
                    clear hgm2 hxb2 hyb2
                    go_wp2
                    go_roundw
                    case rel => exact ⟨i + 1, by omega, by go_num, ⟨GMH.out, XB.out, YB.out⟩, HS3.out⟩
                    case measure => simp [intOf]; omega
                  · exact AllReadyK.nil
              · have he : ((f : Int) == wrap64 ((2:Int) ^ i)) = false := by rw [hsh, beq_eq_false_iff_ne]; exact fun e => hfi (Int.ofNat.inj e)
                have HFI := Lib.hid hfi
                clear hfi hsh
                go_upto_region 23 with (fail)
                go_quiet (fail)
                go_wp2
                go_roundw
                case rel =>
                  have e : sRow l k (i + 1) S0 = sRow l k i S0 := by rw [HSU.out]; unfold sStep; rw [← HF.out, if_neg HFI.out]
                  exact ⟨i + 1, by omega, by go_num, by rw [e]; exact ⟨GMH.out.ext (Ext.of_drewN _ _), XB.out.ext (Ext.of_drewN _ _), YB.out.ext (Ext.of_drewN _ _)⟩, by rw [e]; exact HSB.out.mono (by push_cast; omega)⟩
                case measure => simp [intOf]; omega
            · obtain rfl : i = l.length := by omega
              clear hil
              obtain ⟨S1, hS1⟩ : ∃ S, S = sRow l k l.length S0 := ⟨_, rfl⟩
              rw [← hS1] at hgm HSB
              have HS1 := Lib.hid hS1
              have y0 := hyb.cell 0
              have x0 := hxb.cell 0
              have d9 := hgm.g.h9.cell 0
              have k1 : (0:Int) ≤ (k:Int) := by omega
              have k2 : (k:Int) < (N:Int) := by omega
              have HSZ := Lib.hid (show k < (iA M0).size by rw [iA_size, hgm.g.lm]; exact hlt)
              obtain ⟨M1, hM1⟩ : ∃ M, M = M0.set k (-1) := ⟨_, rfl⟩
              have HM1 := Lib.hid hM1
              have GMH := Lib.hid hgm
              have XB := Lib.hid hxb
              have YB := Lib.hid hyb
              clear hgm hxb hyb
              clear hS1 hM1 HR
              go_upto_region 27 with (
                with_reducible refine wpList_setK (i := k) (v := .int .i64 (-1)) rfl rfl GMH.out.g.hm ?_ ?_ ?_ ?_ ?_ ?_ ?_
                · rfl
                · rfl
                · exact HSZ.out
                · kernel_rfl
                · rfl
                · rfl
                rintro w9 hb9 ho9
                rw [iA_set, ← HM1.out] at hb9
                have hgm2 := GMH.out.setM (M' := M1) (by rw [HM1.out]; simp) hb9 ho9
                have hw0 := HW0.out
                have hlx := LX.out
                have hly := LY.out
                have hxb2 := XB.out.only ho9 (by omega)
                have hyb2 := YB.out.only ho9 (by omega)
                have d8 := hgm2.g.h8.cell 0
                have csk := hgm2.g.cS hlt
                have hW1 : W0.heap.size ≤ w9.heap.size := Nat.le_of_lt (Nat.lt_of_le_of_lt hlx hxb2.lt)
                clear GMH XB YB ho9 hb9 hw0 hlx hly d9 x0 y0
                have HW1 := Lib.hid hW1
                clear hW1
                have x0 := hxb2.cell 0
                have GMH := Lib.hid hgm2
                have XB := Lib.hid hxb2
                have YB := Lib.hid hyb2
                clear hgm2 hxb2 hyb2)
              by_cases hc0 : gI S1 k = 0
              · skip
                as_aux_lemma =>
                  have heq : (gI S1 k != 0) = false := by simpa using hc0
                  have HC0 := Lib.hid hc0
                  obtain ⟨cv, hcv⟩ : ∃ c, c = gI S1 k := ⟨_, rfl⟩
                  rw [← hcv] at csk heq
                  have hsub := subsets_any (k : Int)
                  have HSUB := Lib.hid hsub
                  clear hsub
                  clear hcv hc0
                  go_wp2_with (
                    go_at_call 59
                    refine (HSUB.out _).mono ?_
                    rintro e wx ⟨qb, rfl, hq, hlq, hx⟩
                    have hgm := GMH.out.ext hx
                    have hxb := XB.out.ext hx
                    have hyb := YB.out.ext hx
                    have hw1 := Nat.le_trans HW1.out hx.size
                    have hqg : qb ≠ gm := by have h1 := GMH.out.g.hm.lt; omega
                    clear GMH XB YB HW1 d8 csk x0
                    have QG := Lib.hid hqg
                    clear hqg
                    have GMH := Lib.hid hgm
                    have XB := Lib.hid hxb
                    have YB := Lib.hid hyb
                    have QB := Lib.hid hq
                    have HW1 := Lib.hid hw1
                    clear hgm hxb hyb hq hw1
                    clear hx hlq HSUB)
                  have hB : (0:Int) ≤ (k : Int) := by omega
                  have hsm1 : Small (k : Int) M1 := by rw [HM1.out]; exact HSM2.out.2.set ⟨by omega, by omega⟩ k
                  have hlen1 : k < M1.length := by rw [GMH.out.g.lm]; exact hlt
                  have hri : RI w b8 b9 gs gm N k W0.heap.size wx.heap.size xb yb qb f k Ds S1 M1 [] wx := ⟨GMH.out.g, XB.out, YB.out, QB.out, MP.start hsm1 hB, GMH.out.d⟩
                  have hwx : w.heap.size ≤ wx.heap.size := GMH.out.g.x.size
                  have HRI := Lib.hid hri
                  have HSM1 := Lib.hid hsm1
                  have HL1 := Lib.hid hlen1
                  have HWX := Lib.hid hwx
                  have HB0 := Lib.hid hB
                  clear hri hsm1 hlen1 hwx hB
                  clear GMH XB YB QB
                  refine (wpIn_wide (n := 10)).1 (wpIn_rangeLive (by decide) (gf := 93) (lb := #[.pointer (some ⟨qb, 0, none⟩)]) rfl (enters_of Try.func93 (by kernel_rfl) rfl)
                    (subsets_gives 9 (by decide) k qb hk1024 wx) (Below.refl _ _) (fun _ => rfl)
                    (RI w b8 b9 gs gm N k W0.heap.size wx.heap.size xb yb qb f k Ds S1 M1) (RI.own HWX.out (Nat.le_refl _)) (fun _ _ h => h.bq.cell 0) HRI.out
                    (fun L x a1 W => RI w b8 b9 gs gm N k W0.heap.size wx.heap.size xb yb qb f k Ds S1 M1 L W ∧ (1 ≤ x ∧ x ≤ k) ∧ ∃ v0 v1 v2 v3 v4 v5 v6 v7 v12 v13 v15 v16 v17 v18 v19 v20 v21 v22 v23 v24 v25 v26 v27 v28 v29 v30 v31 v32 v33 v34 v35 v36 v37 v38 v39 v40 v41 v42 v43 v44 v45 v46 v47 v48 v49 v50 v51 v52 v53 v54 v55 v56 v57 v58 v59 v60 v61 v62 v63 v64 v65 v66 v67 v68 v69 v70 v71 v72 v73 v74 v75 v76 v77 v78 v79 v80 v81 v82 v83 v84 v85 v86 v87 v88 v89 v90 v91 v92 v93 v94 v95 v96 v97 v98 v99 v100 v101 v102 v103 v104 v105 v106 v107 v108 v109 v110 v111 v112 v113 v114 v115 v116 v117 v118 v119 v120 v121 v122 v123 v124 : Value, a1 = { tmps := #[v0, v1, v2, v3, v4, v5, v6, v7, .pointer (some ⟨b8, 0, none⟩), .pointer (some ⟨b9, 0, none⟩), .pointer (some ⟨xb, 0, none⟩), .pointer (some ⟨yb, 0, none⟩), v12, v13, .int .i64 (x : Int), v15, v16, v17, v18, v19, v20, v21, v22, v23, v24, v25, v26, v27, v28, v29, v30, v31, v32, v33, v34, v35, v36, v37, v38, v39, v40, v41, v42, v43, v44, v45, v46, v47, v48, v49, v50, v51, v52, v53, v54, v55, v56, v57, v58, v59, v60, v61, v62, v63, v64, v65, v66, v67, v68, v69, v70, v71, v72, v73, v74, v75, v76, v77, v78, v79, v80, v81, v82, v83, v84, v85, v86, v87, v88, v89, v90, v91, v92, v93, v94, v95, v96, v97, v98, v99, v100, v101, v102, v103, v104, v105, v106, v107, v108, v109, v110, v111, v112, v113, v114, v115, v116, v117, v118, v119, v120, v121, v122, v123, v124, undef, undef, undef, undef, undef, undef, undef, undef, undef, undef, undef, undef, undef, undef, undef, undef, undef, undef, undef, undef, undef, undef, undef, undef, undef, undef, undef, undef, undef, undef, undef, undef, undef, undef, undef, undef, undef, undef, undef, undef, undef, undef, undef, undef, undef, undef, undef, undef, undef, undef, undef, undef, undef, undef, undef, undef, undef, undef, undef, undef, undef, undef, undef, undef, undef, undef, undef, undef, undef, undef, undef, undef, undef, undef, undef], defers := [] }) ?hAx ?assign ?body ?done)
                  case hAx =>
                    intro L x
                    rintro a1 W W' row ⟨h1, h2, h3⟩ hgr hr
                    exact ⟨RI.own HWX.out (Nat.le_refl _) L W W' row h1 hgr hr, h2, h3⟩
                  case assign =>
                    intro l0 L x W K hi hr hK
                    have HI2 := Lib.hid hi
                    have HR2 := Lib.hid hr
                    have HK := Lib.hid hK
                    clear hi hr hK
                    rw [foldl_one]
                    simp only [List.setIfInBounds_toArray, List.set_cons_zero, List.set_cons_succ]
                    gi_wp2
                    refine HK.out _ _ (keeps_ext (Below.refl _ _)) ⟨HI2.out, HR2.out, ?_⟩
                    (repeat apply Exists.intro)
                    rfl
                  case body =>
                    intro l1 L x a1 W hax
                    obtain ⟨hri, hx12, hax⟩ := hax
                    obtain ⟨v0, hax⟩ := hax
                    obtain ⟨v1, hax⟩ := hax
                    obtain ⟨v2, hax⟩ := hax
                    obtain ⟨v3, hax⟩ := hax
                    obtain ⟨v4, hax⟩ := hax
                    obtain ⟨v5, hax⟩ := hax
                    obtain ⟨v6, hax⟩ := hax
                    obtain ⟨v7, hax⟩ := hax
                    obtain ⟨v12, hax⟩ := hax
                    obtain ⟨v13, hax⟩ := hax
                    obtain ⟨v15, hax⟩ := hax
                    obtain ⟨v16, hax⟩ := hax
                    obtain ⟨v17, hax⟩ := hax
                    obtain ⟨v18, hax⟩ := hax
                    obtain ⟨v19, hax⟩ := hax
                    obtain ⟨v20, hax⟩ := hax
                    obtain ⟨v21, hax⟩ := hax
                    obtain ⟨v22, hax⟩ := hax
                    obtain ⟨v23, hax⟩ := hax
                    obtain ⟨v24, hax⟩ := hax
                    obtain ⟨v25, hax⟩ := hax
                    obtain ⟨v26, hax⟩ := hax
                    obtain ⟨v27, hax⟩ := hax
                    obtain ⟨v28, hax⟩ := hax
                    obtain ⟨v29, hax⟩ := hax
                    obtain ⟨v30, hax⟩ := hax
                    obtain ⟨v31, hax⟩ := hax
                    obtain ⟨v32, hax⟩ := hax
                    obtain ⟨v33, hax⟩ := hax
                    obtain ⟨v34, hax⟩ := hax
                    obtain ⟨v35, hax⟩ := hax
                    obtain ⟨v36, hax⟩ := hax
                    obtain ⟨v37, hax⟩ := hax
                    obtain ⟨v38, hax⟩ := hax
                    obtain ⟨v39, hax⟩ := hax
                    obtain ⟨v40, hax⟩ := hax
                    obtain ⟨v41, hax⟩ := hax
                    obtain ⟨v42, hax⟩ := hax
                    obtain ⟨v43, hax⟩ := hax
                    obtain ⟨v44, hax⟩ := hax
                    obtain ⟨v45, hax⟩ := hax
                    obtain ⟨v46, hax⟩ := hax
                    obtain ⟨v47, hax⟩ := hax
                    obtain ⟨v48, hax⟩ := hax
                    obtain ⟨v49, hax⟩ := hax
                    obtain ⟨v50, hax⟩ := hax
                    obtain ⟨v51, hax⟩ := hax
                    obtain ⟨v52, hax⟩ := hax
                    obtain ⟨v53, hax⟩ := hax
                    obtain ⟨v54, hax⟩ := hax
                    obtain ⟨v55, hax⟩ := hax
                    obtain ⟨v56, hax⟩ := hax
                    obtain ⟨v57, hax⟩ := hax
                    obtain ⟨v58, hax⟩ := hax
                    obtain ⟨v59, hax⟩ := hax
                    obtain ⟨v60, hax⟩ := hax
                    obtain ⟨v61, hax⟩ := hax
                    obtain ⟨v62, hax⟩ := hax
                    obtain ⟨v63, hax⟩ := hax
                    obtain ⟨v64, hax⟩ := hax
                    obtain ⟨v65, hax⟩ := hax
                    obtain ⟨v66, hax⟩ := hax
                    obtain ⟨v67, hax⟩ := hax
                    obtain ⟨v68, hax⟩ := hax
                    obtain ⟨v69, hax⟩ := hax
                    obtain ⟨v70, hax⟩ := hax
                    obtain ⟨v71, hax⟩ := hax
                    obtain ⟨v72, hax⟩ := hax
                    obtain ⟨v73, hax⟩ := hax
                    obtain ⟨v74, hax⟩ := hax
                    obtain ⟨v75, hax⟩ := hax
                    obtain ⟨v76, hax⟩ := hax
                    obtain ⟨v77, hax⟩ := hax
                    obtain ⟨v78, hax⟩ := hax
                    obtain ⟨v79, hax⟩ := hax
                    obtain ⟨v80, hax⟩ := hax
                    obtain ⟨v81, hax⟩ := hax
                    obtain ⟨v82, hax⟩ := hax
                    obtain ⟨v83, hax⟩ := hax
                    obtain ⟨v84, hax⟩ := hax
                    obtain ⟨v85, hax⟩ := hax
                    obtain ⟨v86, hax⟩ := hax
                    obtain ⟨v87, hax⟩ := hax
                    obtain ⟨v88, hax⟩ := hax
                    obtain ⟨v89, hax⟩ := hax
                    obtain ⟨v90, hax⟩ := hax
                    obtain ⟨v91, hax⟩ := hax
                    obtain ⟨v92, hax⟩ := hax
                    obtain ⟨v93, hax⟩ := hax
                    obtain ⟨v94, hax⟩ := hax
                    obtain ⟨v95, hax⟩ := hax
                    obtain ⟨v96, hax⟩ := hax
                    obtain ⟨v97, hax⟩ := hax
                    obtain ⟨v98, hax⟩ := hax
                    obtain ⟨v99, hax⟩ := hax
                    obtain ⟨v100, hax⟩ := hax
                    obtain ⟨v101, hax⟩ := hax
                    obtain ⟨v102, hax⟩ := hax
                    obtain ⟨v103, hax⟩ := hax
                    obtain ⟨v104, hax⟩ := hax
                    obtain ⟨v105, hax⟩ := hax
                    obtain ⟨v106, hax⟩ := hax
                    obtain ⟨v107, hax⟩ := hax
                    obtain ⟨v108, hax⟩ := hax
                    obtain ⟨v109, hax⟩ := hax
                    obtain ⟨v110, hax⟩ := hax
                    obtain ⟨v111, hax⟩ := hax
                    obtain ⟨v112, hax⟩ := hax
                    obtain ⟨v113, hax⟩ := hax
                    obtain ⟨v114, hax⟩ := hax
                    obtain ⟨v115, hax⟩ := hax
                    obtain ⟨v116, hax⟩ := hax
                    obtain ⟨v117, hax⟩ := hax
                    obtain ⟨v118, hax⟩ := hax
                    obtain ⟨v119, hax⟩ := hax
                    obtain ⟨v120, hax⟩ := hax
                    obtain ⟨v121, hax⟩ := hax
                    obtain ⟨v122, hax⟩ := hax
                    obtain ⟨v123, hax⟩ := hax
                    obtain ⟨v124, hax⟩ := hax
                    subst hax
                    dsimp only
                    obtain ⟨x1, x2⟩ := hx12
                    have hand : bits .and .i64 (x : Int) (f : Int) = ((x &&& f : Nat) : Int) := and_i64 x f (by omega) (by omega)
                    have c8 := hri.g.h8.cell 0
                    have cx := hri.g.cS (i := x) (by omega)
                    have cy := hri.by_.cell 0
                    have j1 : (0:Int) ≤ (x:Int) := by omega
                    have j2 : (x:Int) < (N:Int) := by omega
                    have hM := mFold_snoc k S1 L x M1
                    have hmst : ∀ M, mStep k S1 M x = if x &&& f ≠ 0 ∧ gI S1 x = 0 then M.set k (max (gI M k) (gI M (k ^^^ x) + 1)) else M := fun M => by rw [HF.out]; rfl
                    obtain ⟨z, hz⟩ : ∃ z, z = x &&& f := ⟨_, rfl⟩
                    obtain ⟨g, hg⟩ : ∃ g, g = gI S1 x := ⟨_, rfl⟩
                    rw [← hz] at hand hmst
                    rw [← hg] at cx hmst
                    have RIH := Lib.hid hri
                    have HM := Lib.hid hM
                    have HMST := Lib.hid hmst
                    clear hri hM hmst
                    clear hz hg
                    by_cases q : z ≠ 0 ∧ g = 0
                    · obtain ⟨q1, rfl⟩ := q
                      have q2 : ((z : Int) != 0) = true := by simpa using q1
                      have hM2 : (L ++ [x]).foldl (mStep k S1) M1 = (L.foldl (mStep k S1) M1).set k (max (gI (L.foldl (mStep k S1) M1) k) (gI (L.foldl (mStep k S1) M1) (k ^^^ x) + 1)) := by rw [HM.out, HMST.out, if_pos ⟨q1, rfl⟩]
                      have HM2 := Lib.hid hM2
                      clear q1 hM2 HM HMST
                      gi_wp2
                      have hxd : Ext W W.drew := (Below.refl _ W).drew
                      have hr := RIH.out.ext hxd
                      have hyN : k ^^^ x < N := by
                        have h1 := HNL.out
                        rw [h1]
                        exact Nat.xor_lt_two_pow (by rw [← h1]; exact hlt) (by rw [← h1]; omega)
                      have hyk : k ^^^ x ≠ k := xor_ne k x x1
                      have hxor := xor_i64 k x (by omega) (by omega)
                      obtain ⟨y, hy⟩ : ∃ y, y = k ^^^ x := ⟨_, rfl⟩
                      obtain ⟨M, hM0⟩ : ∃ M, M = L.foldl (mStep k S1) M1 := ⟨_, rfl⟩
                      have HN2 : Hid ((L ++ [x]).foldl (mStep k S1) M1 = M.set k (max (gI M k) (gI M y + 1))) := by rw [hM0, hy]; exact HM2.out
                      have hmp := RIH.out.m.step (S := S1) HSM1.out HB0.out HL1.out x1
                      rw [← mFold_snoc] at hmp
                      have hb1 := RIH.out.m.other (k ^^^ x) hyk
                      have hb2 := gI_small HSM1.out HB0.out (k ^^^ x)
                      rw [← hb1, ← hy, ← hM0] at hb2
                      have hgm := hr.g
                      rw [← hM0] at hgm
                      rw [← hy] at hxor hyN
                      have ck := hgm.cM hlt
                      have cy2 := hgm.cM hyN
                      obtain ⟨a0, ha0⟩ : ∃ a, a = gI M k := ⟨_, rfl⟩
                      obtain ⟨b0, hb0⟩ : ∃ a, a = gI M y := ⟨_, rfl⟩
                      rw [← ha0] at ck
                      rw [← hb0] at cy2 hb2
                      rw [← ha0, ← hb0] at HN2
                      have hwr : IntKind.i64.wrap (b0 + 1) = b0 + 1 := i64_eq _ ⟨by omega, by omega⟩
                      have y1 : (0:Int) ≤ (y:Int) := by omega
                      have y2 : (y:Int) < (N:Int) := by omega
                      have HSZ2 := Lib.hid (show k < (iA M).size by rw [iA_size, hgm.lm]; exact hlt)
                      have e9 := hgm.h9.cell 0
                      have ex := hr.bx.cell 0
                      have hrb := hr.by_
                      have hrq := hr.bq
                      have hrd := hr.d
                      have hrx := hr.bx
                      clear hb1 hb2 hyk hM0 ha0 hb0 c8 cx cy HM2 hr RIH hy
                      refine wpIn_region_K (fun wx => wx.cell? ⟨b9, 0, none⟩ = some (.slice (some ⟨gm, 0, none⟩) N N) ∧ wx.cell? ⟨xb, 0, none⟩ = some (.int .i64 (k : Int)) ∧ wx.cell? ⟨gm, k, none⟩ = some (.int .i64 a0) ∧ wx.cell? ⟨gm, y, none⟩ = some (.int .i64 b0)) 15 (by kernel_rfl) (by kernel_rfl) (by rintro ⟨_, _, h⟩; exact h) ⟨e9, ex, ck, cy2⟩ (fun hHeld => ?_)
                      have HXD := Lib.hid hxd
                      have GMB := Lib.hid hgm
                      have HMP := Lib.hid hmp
                      have WRB := Lib.hid hwr
                      have RB := Lib.hid hrb
                      have RQ := Lib.hid hrq
                      have RD := Lib.hid hrd
                      have RX := Lib.hid hrx
                      clear hxd hgm hmp hwr hrb hrq hrd hrx
                      generalize W.drew = wA at *
                      clear e9 ex ck cy2
                      refine wpAnyK_takeL (i := 0) (v := ?_) rfl (by kernel_rfl) (by kernel_rfl) (by kernel_rfl) (by kernel_rfl) (fun _ _ _ h => h) (Or.inl ⟨by rfl, ?_⟩) hHeld ?_
                      rotate_left
                      · intro w hSw; (try dsimp only at hSw); go_simp; (try with_reducible rfl)
                      try simp only [Act.put, List.setIfInBounds_toArray, List.set_cons_zero, List.set_cons_succ]
                      refine wpAnyK_takeL (i := 1) (v := ?_) rfl (by kernel_rfl) (by kernel_rfl) (by kernel_rfl) (by kernel_rfl) (fun _ _ _ h => h) (Or.inl ⟨by rfl, ?_⟩) hHeld ?_
                      rotate_left
                      · intro w hSw; (try dsimp only at hSw); go_simp; (try with_reducible rfl)
                      try simp only [Act.put, List.setIfInBounds_toArray, List.set_cons_zero, List.set_cons_succ]
                      refine wpAnyK_takeL (i := 2) (v := ?_) rfl (by kernel_rfl) (by kernel_rfl) (by kernel_rfl) (by kernel_rfl) (fun _ _ _ h => h) (Or.inl ⟨by rfl, ?_⟩) hHeld ?_
                      rotate_left
                      · intro w hSw; (try dsimp only at hSw); go_simp; (try with_reducible rfl)
                      try simp only [Act.put, List.setIfInBounds_toArray, List.set_cons_zero, List.set_cons_succ]
                      refine wpAnyK_takeL (i := 3) (v := ?_) rfl (by kernel_rfl) (by kernel_rfl) (by kernel_rfl) (by kernel_rfl) (fun _ _ _ h => h) (Or.inl ⟨by rfl, ?_⟩) hHeld ?_
                      rotate_left
                      · intro w hSw; (try dsimp only at hSw); go_simp; (try with_reducible rfl)
                      try simp only [Act.put, List.setIfInBounds_toArray, List.set_cons_zero, List.set_cons_succ]
                      refine wpAnyK_takeL (i := 4) (v := ?_) rfl (by kernel_rfl) (by kernel_rfl) (by kernel_rfl) (by kernel_rfl) (fun _ _ _ h => h) (Or.inl ⟨by rfl, ?_⟩) hHeld ?_
                      rotate_left
                      · intro w hSw; (try dsimp only at hSw); go_simp; (try with_reducible rfl)
                      try simp only [Act.put, List.setIfInBounds_toArray, List.set_cons_zero, List.set_cons_succ]
                      refine wpAnyK_takeL (i := 5) (v := ?_) rfl (by kernel_rfl) (by kernel_rfl) (by kernel_rfl) (by kernel_rfl) (fun _ _ _ h => h) (Or.inl ⟨by rfl, ?_⟩) hHeld ?_
                      rotate_left
                      · intro w hSw; (try dsimp only at hSw); go_simp; (try with_reducible rfl)
                      try simp only [Act.put, List.setIfInBounds_toArray, List.set_cons_zero, List.set_cons_succ]
                      refine wpAnyK_takeL (i := 6) (v := ?_) rfl (by kernel_rfl) (by kernel_rfl) (by kernel_rfl) (by kernel_rfl) (fun _ _ _ h => h) (Or.inl ⟨by rfl, ?_⟩) hHeld ?_
                      rotate_left
                      · intro w hSw; (try dsimp only at hSw); go_simp; (try with_reducible rfl)
                      try simp only [Act.put, List.setIfInBounds_toArray, List.set_cons_zero, List.set_cons_succ]
                      refine wpAnyK_takeL (i := 7) (v := ?_) rfl (by kernel_rfl) (by kernel_rfl) (by kernel_rfl) (by kernel_rfl) (fun _ _ _ h => h) (Or.inl ⟨by rfl, ?_⟩) hHeld ?_
                      rotate_left
                      · intro w hSw; (try dsimp only at hSw); go_simp; (try with_reducible rfl)
                      try simp only [Act.put, List.setIfInBounds_toArray, List.set_cons_zero, List.set_cons_succ]
                      refine wpAnyK_takeL (i := 8) (v := ?_) rfl (by kernel_rfl) (by kernel_rfl) (by kernel_rfl) (by kernel_rfl) (fun _ _ _ h => h) (Or.inl ⟨by rfl, ?_⟩) hHeld ?_
                      rotate_left
                      · intro w hSw; (try dsimp only at hSw); go_simp; (try with_reducible rfl)
                      try simp only [Act.put, List.setIfInBounds_toArray, List.set_cons_zero, List.set_cons_succ]
                      refine wpAnyK_takeL (i := 9) (v := ?_) rfl (by kernel_rfl) (by kernel_rfl) (by kernel_rfl) (by kernel_rfl) (fun _ _ _ h => h) (Or.inl ⟨by rfl, ?_⟩) hHeld ?_
                      rotate_left
                      · intro w hSw; (try dsimp only at hSw); go_simp; (try with_reducible rfl)
                      try simp only [Act.put, List.setIfInBounds_toArray, List.set_cons_zero, List.set_cons_succ]
                      refine wpAnyK_takeL (i := 10) (v := ?_) rfl (by kernel_rfl) (by kernel_rfl) (by kernel_rfl) (by kernel_rfl) (fun _ _ _ h => h) (Or.inl ⟨by rfl, ?_⟩) hHeld ?_
                      rotate_left
                      · intro w hSw; (try dsimp only at hSw); go_simp; (try with_reducible rfl)
                      try simp only [Act.put, List.setIfInBounds_toArray, List.set_cons_zero, List.set_cons_succ]
                      refine wpAnyK_takeL (i := 11) (v := ?_) rfl (by kernel_rfl) (by kernel_rfl) (by kernel_rfl) (by kernel_rfl) (fun _ _ _ h => h) (Or.inl ⟨by rfl, ?_⟩) hHeld ?_
                      rotate_left
                      · intro w hSw; (try dsimp only at hSw); go_simp; (try with_reducible rfl)
                      try simp only [Act.put, List.setIfInBounds_toArray, List.set_cons_zero, List.set_cons_succ]
                      refine wpAnyK_takeL (i := 12) (v := ?_) rfl (by kernel_rfl) (by kernel_rfl) (by kernel_rfl) (by kernel_rfl) (fun _ _ _ h => h) (Or.inl ⟨by rfl, ?_⟩) hHeld ?_
                      rotate_left
                      · intro w hSw; (try dsimp only at hSw); go_simp; (try with_reducible rfl)
                      try simp only [Act.put, List.setIfInBounds_toArray, List.set_cons_zero, List.set_cons_succ]
                      refine wpAnyK_takeL (i := 13) (v := ?_) rfl (by kernel_rfl) (by kernel_rfl) (by kernel_rfl) (by kernel_rfl) (fun _ _ _ h => h) (Or.inl ⟨by rfl, ?_⟩) hHeld ?_
                      rotate_left
                      · intro w hSw; (try dsimp only at hSw); go_simp; (try with_reducible rfl)
                      try simp only [Act.put, List.setIfInBounds_toArray, List.set_cons_zero, List.set_cons_succ]
                      refine wpAnyK_takeL (i := 14) (v := ?_) rfl (by kernel_rfl) (by kernel_rfl) (by kernel_rfl) (by kernel_rfl) (fun _ _ _ h => h) (Or.inl ⟨by rfl, ?_⟩) hHeld ?_
                      rotate_left
                      · intro w hSw; (try dsimp only at hSw); go_simp; (try with_reducible rfl)
                      try simp only [Act.put, List.setIfInBounds_toArray, List.set_cons_zero, List.set_cons_succ]
                      clear hHeld
                      refine wpAnyK_ready (rs := [15]) (by kernel_rfl) (by simp) ?_
                      refine AllReadyK.consL (i := 15) rfl (fun K hK => ?_) ?_
                      · refine step_setK (i := k) (v := .int .i64 (if IntKind.i64.wrap (b0 + 1) > a0 then IntKind.i64.wrap (b0 + 1) else a0)) rfl rfl GMB.out.hm rfl ?_ HSZ2.out (by kernel_rfl) rfl (by simp [Value.oneCell']) ?_
                        · rfl
                        intro wB hw1 hb1 ho1
                        have hmx : (if b0 + 1 > a0 then b0 + 1 else a0) = max a0 (b0 + 1) := by rw [Int.max_def]; split <;> split <;> omega
                        rw [WRB.out, hmx, iA_set] at hb1
                        clear hw1 hmx
                        refine hK.out _ _ (fun h => absurd h (by decide)) (fun hHeld2 => ?_)
                        clear hK K hHeld2
                        try clear hHeld
                        try simp only [Act.put, List.setIfInBounds_toArray, List.set_cons_zero, List.set_cons_succ]
                        refine wpAnyK_done (by kernel_rfl) ?_ _
                        have hgm2 := GMB.out.setM (M' := M.set k (max a0 (b0 + 1))) (by simp) hb1 ho1
                        have hw0 := HW0.out
                        have hlx := LX.out
                        have hly := LY.out
                        gi_wp2
                        all_goals exact ⟨(keeps_ext HXD.out).trans (keeps_blk ho1 GMB.out.hm), ⟨by rw [HN2.out]; exact hgm2, RX.out.only ho1 (by omega), RB.out.only ho1 (by omega), RQ.out.only ho1 QG.out, HMP.out, RD.out.blk ho1 GMB.out.hm⟩⟩
                      · exact AllReadyK.nil
                    · have hM2 : (L ++ [x]).foldl (mStep k S1) M1 = L.foldl (mStep k S1) M1 := by rw [HM.out, HMST.out, if_neg q]
                      have HM2 := Lib.hid hM2
                      have hend : RI w b8 b9 gs gm N k W0.heap.size wx.heap.size xb yb qb f k Ds S1 M1 (L ++ [x]) W := by
                        have h := RIH.out
                        exact ⟨by rw [HM2.out]; exact h.g, h.bx, h.by_, h.bq, by rw [HM2.out]; exact h.m, h.d⟩
                      have HEND := Lib.hid hend
                      clear hend hM2 HM HMST HM2
                      by_cases q1 : z = 0
                      · have q2 : ((z : Int) != 0) = false := by simpa using q1
                        clear q q1
                        gi_wp2
                        exact ⟨keeps_ext (Below.refl _ _), HEND.out⟩
                      · have q2 : ((z : Int) != 0) = true := by simpa using q1
                        have q3 : (g == 0) = false := by
                          rw [beq_eq_false_iff_ne]; exact fun e => q ⟨q1, e⟩
                        clear q q1
                        gi_wp2
                        exact ⟨keeps_ext (Below.refl _ _), HEND.out⟩
                  case done =>
                    intro D W hD hri hdd
                    have hl := (Array.getElem?_eq_some_iff.1 hdd).1
                    have hgm : GD w W b8 b9 gs gm N S1 ((subL k).foldl (mStep k S1) M1) W0.heap.size (D :: Ds) := ⟨hri.g, fun E hE => by
                      rcases List.mem_cons.1 hE with rfl | hE
                      · exact ⟨Nat.le_trans HW1.out hD, hl, hdd⟩
                      · exact (hri.d.size) E hE⟩
                    have hnd2 : (D :: Ds).Nodup := List.nodup_cons.2 ⟨fun hm => by have := (hri.d D hm).2.1; omega, HND.out⟩
                    have hrow : tab l (k + 1 - 1) = (S1, (subL k).foldl (mStep k S1) M1) := by
                      show tab l k = _
                      rw [tab_succ l k hk1, ← HS0.out, ← HM0.out, ← HS1.out, mRow_yes HC0.out, ← HM1.out]
                    have hM2 : Small ((k + 1 : Nat) : Int) ((subL k).foldl (mStep k S1) M1) := by
                      have h := hri.m.small HSM1.out HB0.out
                      exact h.mono (by push_cast; omega)
                    have hw1 : W0.heap.size ≤ W.heap.size := Nat.le_trans (Nat.le_trans HW1.out hD) (Nat.le_of_lt hl)
                    have hbx := hri.bx
                    have x0 := hbx.cell 0
                    have hby := hri.by_
                    have d8 := hgm.g.h8.cell 0
                    have csk := hgm.g.cS hlt
                    dsimp only
                    clear HW1 HRI HSM1 hl hdd hri hD
                    have GMH := Lib.hid hgm
                    have HND2 := Lib.hid hnd2
                    have HROW := Lib.hid hrow
                    have HM2 := Lib.hid hM2
                    have HW1 := Lib.hid hw1
                    have XB := Lib.hid hbx
                    have YB := Lib.hid hby
                    clear hgm hnd2 hrow hM2 hw1 hbx hby
                    go_wp2_with (first
                      | (with_reducible refine wpList_alloc1 rfl rfl Try.zeroValue3 rfl ?_
                         rintro nb w7 hb7 hx7 hl7
                         have hgm := GMH.out.ext hx7
                         have x0 := (XB.out.ext hx7).cell 0
                         have lz := Nat.le_trans HW1.out hl7
                         clear GMH XB YB d8 csk
                         have ZB := Lib.hid hb7
                         have GMH := Lib.hid hgm
                         have LZ := Lib.hid lz
                         clear hb7 hgm lz
                         clear hx7 hl7)
                      | (with_reducible refine wpList_setK (i := 0) (v := .int .i64 ((k : Nat) : Int)) rfl rfl ZB.out ?_ ?_ ?_ ?_ ?_ ?_ ?_
                         · rfl
                         · rfl
                         · show 0 < 1; omega
                         · kernel_rfl
                         · rfl
                         · rfl
                         rintro w8 hb8' ho8
                         have hz : Blk w8 nb #[.int .i64 ((k : Nat) : Int)] 3 := hb8'
                         have lz := LZ.out
                         have hw0 := HW0.out
                         have hgm := GMH.out.only ho8 ZB.out ⟨by omega, by omega, by omega, by omega⟩ (by omega)
                         have z0 := hz.cell 0
                         clear GMH ZB hb8' ho8 lz hw0
                         have ZB := Lib.hid hz
                         have GMH := Lib.hid hgm
                         clear hz hgm)
                      | (with_reducible refine wpList_setK (i := 0) (v := .int .i64 (((k : Nat) : Int) + 1)) rfl rfl ZB.out ?_ ?_ ?_ ?_ ?_ ?_ ?_
                         · rfl
                         · rfl
                         · show 0 < 1; omega
                         · kernel_rfl
                         · rfl
                         · rfl
                         rintro w9 hb8' ho8
                         have hz : Blk w9 nb #[.int .i64 ((k + 1 : Nat) : Int)] 3 := hb8'
                         have lz := LZ.out
                         have hw0 := HW0.out
                         have hgm := GMH.out.only ho8 ZB.out ⟨by omega, by omega, by omega, by omega⟩ (by omega)
                         clear GMH ZB hb8' ho8 lz hw0 z0
                         have ZB := Lib.hid hz
                         have GMH := Lib.hid hgm
                         clear hz hgm))
                    exact ⟨⟨k + 1, nb, D :: Ds, _, _, _, _, _, _, _, _, _, _, _, _, _, _, _, _, _, _, _, _, _, _, _, _, _, _, _, _, _, _, _, _, _, _, _, _, _, _, _, _, _, _, _, _, _, _, _, _, _, _, _, _, _, _, _, _, _, _, _, _, _, _, _, _, _, _, _, _, _, _, _, _, _, _, _, _, _, _, _, _, _, _, _, _, _, _, _, _, _, _, _, _, _, _, _, _, _, _, _, _, _, _, _, _, _, _, _, _, _, _, _, _, _, _, _, _, _, _, _, _, by omega, by omega, ⟨by rw [HROW.out]; exact GMH.out, ZB.out, LZ.out, HND2.out⟩, ⟨by rw [HROW.out]; exact HSB.out.mono (by push_cast; omega), by rw [HROW.out]; exact HM2.out⟩, rfl⟩, lt_box rfl ZB.out rfl HXB0.out (Nat.lt_succ_self k) hlt⟩
              · skip
                as_aux_lemma =>
                  have hne : (gI S1 k != 0) = true := by simpa using hc0
                  have hrow : tab l (k + 1 - 1) = (S1, M1) := by
                    show tab l k = _
                    rw [tab_succ l k hk1, ← HS0.out, ← HM0.out, ← HS1.out, mRow_no hc0, ← HM1.out]
                  have HROW := Lib.hid hrow
                  obtain ⟨cv, hcv⟩ : ∃ c, c = gI S1 k := ⟨_, rfl⟩
                  rw [← hcv] at csk hne
                  clear hrow hcv hc0
                  go_wp2_with (first
                    | (with_reducible refine wpList_alloc1 rfl rfl Try.zeroValue3 rfl ?_
                       rintro nb w7 hb7 hx7 hl7
                       have hgm := GMH.out.ext hx7
                       have x0 := (XB.out.ext hx7).cell 0
                       have lz := Nat.le_trans HW1.out hl7
                       clear GMH XB YB d8 csk
                       have ZB := Lib.hid hb7
                       have GMH := Lib.hid hgm
                       have LZ := Lib.hid lz
                       clear hb7 hgm lz
                       clear hx7 hl7)
                    | (with_reducible refine wpList_setK (i := 0) (v := .int .i64 ((k : Nat) : Int)) rfl rfl ZB.out ?_ ?_ ?_ ?_ ?_ ?_ ?_
                       · rfl
                       · rfl
                       · show 0 < 1; omega
                       · kernel_rfl
                       · rfl
                       · rfl
                       rintro w8 hb8' ho8
                       have hz : Blk w8 nb #[.int .i64 ((k : Nat) : Int)] 3 := hb8'
                       have lz := LZ.out
                       have hw0 := HW0.out
                       have hgm := GMH.out.only ho8 ZB.out ⟨by omega, by omega, by omega, by omega⟩ (by omega)
                       have z0 := hz.cell 0
                       clear GMH ZB hb8' ho8 lz hw0
                       have ZB := Lib.hid hz
                       have GMH := Lib.hid hgm
                       clear hz hgm)
                    | (with_reducible refine wpList_setK (i := 0) (v := .int .i64 (((k : Nat) : Int) + 1)) rfl rfl ZB.out ?_ ?_ ?_ ?_ ?_ ?_ ?_
                       · rfl
                       · rfl
                       · show 0 < 1; omega
                       · kernel_rfl
                       · rfl
                       · rfl
                       rintro w9 hb8' ho8
                       have hz : Blk w9 nb #[.int .i64 ((k + 1 : Nat) : Int)] 3 := hb8'
                       have lz := LZ.out
                       have hw0 := HW0.out
                       have hgm := GMH.out.only ho8 ZB.out ⟨by omega, by omega, by omega, by omega⟩ (by omega)
                       clear GMH ZB hb8' ho8 lz hw0 z0
                       have ZB := Lib.hid hz
                       have GMH := Lib.hid hgm
                       clear hz hgm))
                  have hM2 : Small ((k + 1 : Nat) : Int) M1 := by rw [HM1.out]; exact ((HSM2.out.2).mono (by push_cast; omega)).set ⟨by push_cast; omega, by push_cast; omega⟩ k
                  refine ⟨⟨k + 1, nb, Ds, _, _, _, _, _, _, _, _, _, _, _, _, _, _, _, _, _, _, _, _, _, _, _, _, _, _, _, _, _, _, _, _, _, _, _, _, _, _, _, _, _, _, _, _, _, _, _, _, _, _, _, _, _, _, _, _, _, _, _, _, _, _, _, _, _, _, _, _, _, _, _, _, _, _, _, _, _, _, _, _, _, _, _, _, _, _, _, _, _, _, _, _, _, _, _, _, _, _, _, _, _, _, _, _, _, _, _, _, _, _, _, _, _, _, _, _, _, _, _, _, by omega, by omega, ⟨by rw [HROW.out]; exact GMH.out, ZB.out, LZ.out, HND.out⟩, ⟨by rw [HROW.out]; exact HSB.out.mono (by push_cast; omega), by rw [HROW.out]; exact hM2⟩, rfl⟩, lt_box rfl ZB.out rfl HXB0.out (Nat.lt_succ_self k) hlt⟩
        · obtain rfl : k = N := by omega
          have hkA : ¬ (k : Int) ≤ (A : Int) := by omega
          obtain ⟨S, hS⟩ : ∃ S, S = (tab l (k - 1)).1 := ⟨_, rfl⟩
          obtain ⟨M, hM⟩ : ∃ S, S = (tab l (k - 1)).2 := ⟨_, rfl⟩
          rw [← hS, ← hM] at hgm HSM2
          have x0 := hxb.cell 0
          have hgr : groupsP l = grp S M 11 A 0 (List.replicate l.length 0) := by
            unfold groupsP
            rw [hS, hM, HNA.out, HNL.out]
          obtain ⟨res, hres⟩ := Option.isSome_iff_exists.1 (HG.out (by rw [← HE.out, HER.out]))
          rw [hres] at hgr
          have HW1 : Hid (W0.heap.size ≤ wr.heap.size) := Nat.le_of_lt (Nat.lt_of_le_of_lt hlx hxb.lt)
          have HLL : Hid (l.length ≤ 1000000) := by show _ ≤ _; omega
          have GMH := Lib.hid hgm
          have HGR := Lib.hid hgr
          have HRES := Lib.hid hres
          clear hgm hgr hres
          clear hS hM hxb hlx HXB0 hlt
          go_wp2_with (first
            | (with_reducible refine wpList_makeI (n := l.length) rfl rfl rfl rfl HLL.out ?_
               rintro ob w2 hb hx hl
               have hgm := GMH.out.ext hx
               have lo := Nat.le_trans HW1.out hl
               clear GMH x0
               have OB := Lib.hid hb
               have GMH := Lib.hid hgm
               have LO := Lib.hid lo
               clear hb hgm lo
               clear hx hl))
          have hnb := newB w2 #[.int .i64 (A:Int)] 3
          obtain ⟨tb, htb⟩ : ∃ n, n = w2.heap.size := ⟨_, rfl⟩
          obtain ⟨w3, hw3⟩ : ∃ W, W = w2.alloc (.cells #[.int .i64 (A:Int)] 3) := ⟨_, rfl⟩
          rw [← htb, ← hw3]
          rw [← htb, ← hw3] at hnb
          have hgm := GMH.out.ext hnb.2.1
          have hob := OB.out.ext hnb.2.1
          have hne : ob ≠ tb := by have := OB.out.lt; omega
          have htl : W0.heap.size ≤ tb := by have h1 := OB.out.lt; have h2 := LO.out; omega
          have hbt := hnb.1
          clear GMH OB hnb htb hw3
          have GMH := Lib.hid hgm
          have OB := Lib.hid hob
          have NOT := Lib.hid hne
          have LT := Lib.hid htl
          have BT := Lib.hid hbt
          clear hgm hob hne htl hbt
          refine wp_loop (fun a' W => ∃ (t num tb : Nat) (o : List Int) (Ds : List Nat) (u1 u2 u3 u4 u5 u6 u7 u10 u11 u12 u13 u14 u18 u19 u20 u21 u22 u23 u24 u25 u26 u27 u28 u29 u30 u31 u32 u33 u34 u35 u36 u37 u38 u39 u40 u41 u42 u43 u44 u45 u46 u47 u48 u49 u50 u51 u52 u53 u54 u55 u56 u57 u58 u59 u60 u61 u62 u63 u64 u65 u66 u67 u68 u69 u70 u71 u72 u73 u74 u75 u76 u77 u78 u79 u80 u81 u82 u83 u84 u85 u86 u87 u88 u89 u90 u91 u92 u93 u94 u95 u96 u97 u98 u99 u100 u101 u102 u103 u104 u105 u106 u107 u108 u109 u110 u111 u112 u113 u114 u115 u116 u117 u118 u119 u120 u121 u122 u123 u124 u125 u126 u127 u128 u129 u130 u131 u132 u133 u134 u135 u136 u137 u138 u139 u140 u141 u142 u143 u144 u145 u146 u147 u148 u149 u150 u151 u152 u153 u154 u155 u156 u157 u158 u159 u160 u161 u162 u163 u164 u165 u166 u167 u168 u169 u170 u171 u172 u173 u174 u175 u176 u177 u178 u179 u180 u181 u182 u183 u184 u185 u186 u187 u188 u189 u190 u191 u192 u193 u194 u195 u196 u197 u198 u199 : Value), t ≤ A ∧ num ≤ 11 ∧ Hid (grp S M (11 - num) t (num : Nat) o = some res) ∧ Hid (LJ l w W0 b8 b9 gs gm k ob tb t Ds S M o W) ∧ a' = { tmps := #[.slice al l.length cl, u1, u2, u3, u4, u5, u6, u7, .pointer (some ⟨b8, 0, none⟩), .pointer (some ⟨b9, 0, none⟩), u10, u11, u12, u13, u14, .slice (some ⟨ob, 0, none⟩) l.length l.length, .pointer (some ⟨tb, 0, none⟩), .int .i64 num, u18, u19, u20, u21, u22, u23, u24, u25, u26, u27, u28, u29, u30, u31, u32, u33, u34, u35, u36, u37, u38, u39, u40, u41, u42, u43, u44, u45, u46, u47, u48, u49, u50, u51, u52, u53, u54, u55, u56, u57, u58, u59, u60, u61, u62, u63, u64, u65, u66, u67, u68, u69, u70, u71, u72, u73, u74, u75, u76, u77, u78, u79, u80, u81, u82, u83, u84, u85, u86, u87, u88, u89, u90, u91, u92, u93, u94, u95, u96, u97, u98, u99, u100, u101, u102, u103, u104, u105, u106, u107, u108, u109, u110, u111, u112, u113, u114, u115, u116, u117, u118, u119, u120, u121, u122, u123, u124, u125, u126, u127, u128, u129, u130, u131, u132, u133, u134, u135, u136, u137, u138, u139, u140, u141, u142, u143, u144, u145, u146, u147, u148, u149, u150, u151, u152, u153, u154, u155, u156, u157, u158, u159, u160, u161, u162, u163, u164, u165, u166, u167, u168, u169, u170, u171, u172, u173, u174, u175, u176, u177, u178, u179, u180, u181, u182, u183, u184, u185, u186, u187, u188, u189, u190, u191, u192, u193, u194, u195, u196, u197, u198, u199], defers := marks Ds }) (fun a' W => 12 - (intOf (a'.tmps[17]?.getD undef)).toNat) ?_ ?_
          case refine_1 => exact ⟨A, 0, tb, List.replicate l.length 0, Ds, _, _, _, _, _, _, _, _, _, _, _, _, _, _, _, _, _, _, _, _, _, _, _, _, _, _, _, _, _, _, _, _, _, _, _, _, _, _, _, _, _, _, _, _, _, _, _, _, _, _, _, _, _, _, _, _, _, _, _, _, _, _, _, _, _, _, _, _, _, _, _, _, _, _, _, _, _, _, _, _, _, _, _, _, _, _, _, _, _, _, _, _, _, _, _, _, _, _, _, _, _, _, _, _, _, _, _, _, _, _, _, _, _, _, _, _, _, _, _, _, _, _, _, _, _, _, _, _, _, _, _, _, _, _, _, _, _, _, _, _, _, _, _, _, _, _, _, _, _, _, _, _, _, _, _, _, _, _, _, _, _, _, _, _, _, _, _, _, _, _, _, _, _, _, _, _, _, _, _, _, _, _, _, _, _, _, _, _, _, _, _, _, _, _, Nat.le_refl _, by omega, HGR.out.symm, ⟨GMH.out, OB.out, BT.out, LO.out, LT.out, NOT.out, HND.out, by simp⟩, rfl⟩
          case refine_2 =>
            obtain ⟨wl2, hwl⟩ : ∃ W, W = w3 := ⟨_, rfl⟩
            clear hwl GMH OB NOT LT BT HND HGR HW1
            obtain ⟨Ds0, hDs0⟩ : ∃ D, D = Ds := ⟨_, rfl⟩
            clear hDs0
            intro a1 wr hinv
            obtain ⟨t, num, tb, o, Ds, hinv⟩ := hinv
            obtain ⟨u1, hinv⟩ := hinv
            obtain ⟨u2, hinv⟩ := hinv
            obtain ⟨u3, hinv⟩ := hinv
            obtain ⟨u4, hinv⟩ := hinv
            obtain ⟨u5, hinv⟩ := hinv
            obtain ⟨u6, hinv⟩ := hinv
            obtain ⟨u7, hinv⟩ := hinv
            obtain ⟨u10, hinv⟩ := hinv
            obtain ⟨u11, hinv⟩ := hinv
            obtain ⟨u12, hinv⟩ := hinv
            obtain ⟨u13, hinv⟩ := hinv
            obtain ⟨u14, hinv⟩ := hinv
            obtain ⟨u18, hinv⟩ := hinv
            obtain ⟨u19, hinv⟩ := hinv
            obtain ⟨u20, hinv⟩ := hinv
            obtain ⟨u21, hinv⟩ := hinv
            obtain ⟨u22, hinv⟩ := hinv
            obtain ⟨u23, hinv⟩ := hinv
            obtain ⟨u24, hinv⟩ := hinv
            obtain ⟨u25, hinv⟩ := hinv
            obtain ⟨u26, hinv⟩ := hinv
            obtain ⟨u27, hinv⟩ := hinv
            obtain ⟨u28, hinv⟩ := hinv
            obtain ⟨u29, hinv⟩ := hinv
            obtain ⟨u30, hinv⟩ := hinv
            obtain ⟨u31, hinv⟩ := hinv
            obtain ⟨u32, hinv⟩ := hinv
            obtain ⟨u33, hinv⟩ := hinv
            obtain ⟨u34, hinv⟩ := hinv
            obtain ⟨u35, hinv⟩ := hinv
            obtain ⟨u36, hinv⟩ := hinv
            obtain ⟨u37, hinv⟩ := hinv
            obtain ⟨u38, hinv⟩ := hinv
            obtain ⟨u39, hinv⟩ := hinv
            obtain ⟨u40, hinv⟩ := hinv
            obtain ⟨u41, hinv⟩ := hinv
            obtain ⟨u42, hinv⟩ := hinv
            obtain ⟨u43, hinv⟩ := hinv
            obtain ⟨u44, hinv⟩ := hinv
            obtain ⟨u45, hinv⟩ := hinv
            obtain ⟨u46, hinv⟩ := hinv
            obtain ⟨u47, hinv⟩ := hinv
            obtain ⟨u48, hinv⟩ := hinv
            obtain ⟨u49, hinv⟩ := hinv
            obtain ⟨u50, hinv⟩ := hinv
            obtain ⟨u51, hinv⟩ := hinv
            obtain ⟨u52, hinv⟩ := hinv
            obtain ⟨u53, hinv⟩ := hinv
            obtain ⟨u54, hinv⟩ := hinv
            obtain ⟨u55, hinv⟩ := hinv
            obtain ⟨u56, hinv⟩ := hinv
            obtain ⟨u57, hinv⟩ := hinv
            obtain ⟨u58, hinv⟩ := hinv
            obtain ⟨u59, hinv⟩ := hinv
            obtain ⟨u60, hinv⟩ := hinv
            obtain ⟨u61, hinv⟩ := hinv
            obtain ⟨u62, hinv⟩ := hinv
            obtain ⟨u63, hinv⟩ := hinv
            obtain ⟨u64, hinv⟩ := hinv
            obtain ⟨u65, hinv⟩ := hinv
            obtain ⟨u66, hinv⟩ := hinv
            obtain ⟨u67, hinv⟩ := hinv
            obtain ⟨u68, hinv⟩ := hinv
            obtain ⟨u69, hinv⟩ := hinv
            obtain ⟨u70, hinv⟩ := hinv
            obtain ⟨u71, hinv⟩ := hinv
            obtain ⟨u72, hinv⟩ := hinv
            obtain ⟨u73, hinv⟩ := hinv
            obtain ⟨u74, hinv⟩ := hinv
            obtain ⟨u75, hinv⟩ := hinv
            obtain ⟨u76, hinv⟩ := hinv
            obtain ⟨u77, hinv⟩ := hinv
            obtain ⟨u78, hinv⟩ := hinv
            obtain ⟨u79, hinv⟩ := hinv
            obtain ⟨u80, hinv⟩ := hinv
            obtain ⟨u81, hinv⟩ := hinv
            obtain ⟨u82, hinv⟩ := hinv
            obtain ⟨u83, hinv⟩ := hinv
            obtain ⟨u84, hinv⟩ := hinv
            obtain ⟨u85, hinv⟩ := hinv
            obtain ⟨u86, hinv⟩ := hinv
            obtain ⟨u87, hinv⟩ := hinv
            obtain ⟨u88, hinv⟩ := hinv
            obtain ⟨u89, hinv⟩ := hinv
            obtain ⟨u90, hinv⟩ := hinv
            obtain ⟨u91, hinv⟩ := hinv
            obtain ⟨u92, hinv⟩ := hinv
            obtain ⟨u93, hinv⟩ := hinv
            obtain ⟨u94, hinv⟩ := hinv
            obtain ⟨u95, hinv⟩ := hinv
            obtain ⟨u96, hinv⟩ := hinv
            obtain ⟨u97, hinv⟩ := hinv
            obtain ⟨u98, hinv⟩ := hinv
            obtain ⟨u99, hinv⟩ := hinv
            obtain ⟨u100, hinv⟩ := hinv
            obtain ⟨u101, hinv⟩ := hinv
            obtain ⟨u102, hinv⟩ := hinv
            obtain ⟨u103, hinv⟩ := hinv
            obtain ⟨u104, hinv⟩ := hinv
            obtain ⟨u105, hinv⟩ := hinv
            obtain ⟨u106, hinv⟩ := hinv
            obtain ⟨u107, hinv⟩ := hinv
            obtain ⟨u108, hinv⟩ := hinv
            obtain ⟨u109, hinv⟩ := hinv
            obtain ⟨u110, hinv⟩ := hinv
            obtain ⟨u111, hinv⟩ := hinv
            obtain ⟨u112, hinv⟩ := hinv
            obtain ⟨u113, hinv⟩ := hinv
            obtain ⟨u114, hinv⟩ := hinv
            obtain ⟨u115, hinv⟩ := hinv
            obtain ⟨u116, hinv⟩ := hinv
            obtain ⟨u117, hinv⟩ := hinv
            obtain ⟨u118, hinv⟩ := hinv
            obtain ⟨u119, hinv⟩ := hinv
            obtain ⟨u120, hinv⟩ := hinv
            obtain ⟨u121, hinv⟩ := hinv
            obtain ⟨u122, hinv⟩ := hinv
            obtain ⟨u123, hinv⟩ := hinv
            obtain ⟨u124, hinv⟩ := hinv
            obtain ⟨u125, hinv⟩ := hinv
            obtain ⟨u126, hinv⟩ := hinv
            obtain ⟨u127, hinv⟩ := hinv
            obtain ⟨u128, hinv⟩ := hinv
            obtain ⟨u129, hinv⟩ := hinv
            obtain ⟨u130, hinv⟩ := hinv
            obtain ⟨u131, hinv⟩ := hinv
            obtain ⟨u132, hinv⟩ := hinv
            obtain ⟨u133, hinv⟩ := hinv
            obtain ⟨u134, hinv⟩ := hinv
            obtain ⟨u135, hinv⟩ := hinv
            obtain ⟨u136, hinv⟩ := hinv
            obtain ⟨u137, hinv⟩ := hinv
            obtain ⟨u138, hinv⟩ := hinv
            obtain ⟨u139, hinv⟩ := hinv
            obtain ⟨u140, hinv⟩ := hinv
            obtain ⟨u141, hinv⟩ := hinv
            obtain ⟨u142, hinv⟩ := hinv
            obtain ⟨u143, hinv⟩ := hinv
            obtain ⟨u144, hinv⟩ := hinv
            obtain ⟨u145, hinv⟩ := hinv
            obtain ⟨u146, hinv⟩ := hinv
            obtain ⟨u147, hinv⟩ := hinv
            obtain ⟨u148, hinv⟩ := hinv
            obtain ⟨u149, hinv⟩ := hinv
            obtain ⟨u150, hinv⟩ := hinv
            obtain ⟨u151, hinv⟩ := hinv
            obtain ⟨u152, hinv⟩ := hinv
            obtain ⟨u153, hinv⟩ := hinv
            obtain ⟨u154, hinv⟩ := hinv
            obtain ⟨u155, hinv⟩ := hinv
            obtain ⟨u156, hinv⟩ := hinv
            obtain ⟨u157, hinv⟩ := hinv
            obtain ⟨u158, hinv⟩ := hinv
            obtain ⟨u159, hinv⟩ := hinv
            obtain ⟨u160, hinv⟩ := hinv
            obtain ⟨u161, hinv⟩ := hinv
            obtain ⟨u162, hinv⟩ := hinv
            obtain ⟨u163, hinv⟩ := hinv
            obtain ⟨u164, hinv⟩ := hinv
            obtain ⟨u165, hinv⟩ := hinv
            obtain ⟨u166, hinv⟩ := hinv
            obtain ⟨u167, hinv⟩ := hinv
            obtain ⟨u168, hinv⟩ := hinv
            obtain ⟨u169, hinv⟩ := hinv
            obtain ⟨u170, hinv⟩ := hinv
            obtain ⟨u171, hinv⟩ := hinv
            obtain ⟨u172, hinv⟩ := hinv
            obtain ⟨u173, hinv⟩ := hinv
            obtain ⟨u174, hinv⟩ := hinv
            obtain ⟨u175, hinv⟩ := hinv
            obtain ⟨u176, hinv⟩ := hinv
            obtain ⟨u177, hinv⟩ := hinv
            obtain ⟨u178, hinv⟩ := hinv
            obtain ⟨u179, hinv⟩ := hinv
            obtain ⟨u180, hinv⟩ := hinv
            obtain ⟨u181, hinv⟩ := hinv
            obtain ⟨u182, hinv⟩ := hinv
            obtain ⟨u183, hinv⟩ := hinv
            obtain ⟨u184, hinv⟩ := hinv
            obtain ⟨u185, hinv⟩ := hinv
            obtain ⟨u186, hinv⟩ := hinv
            obtain ⟨u187, hinv⟩ := hinv
            obtain ⟨u188, hinv⟩ := hinv
            obtain ⟨u189, hinv⟩ := hinv
            obtain ⟨u190, hinv⟩ := hinv
            obtain ⟨u191, hinv⟩ := hinv
            obtain ⟨u192, hinv⟩ := hinv
            obtain ⟨u193, hinv⟩ := hinv
            obtain ⟨u194, hinv⟩ := hinv
            obtain ⟨u195, hinv⟩ := hinv
            obtain ⟨u196, hinv⟩ := hinv
            obtain ⟨u197, hinv⟩ := hinv
            obtain ⟨u198, hinv⟩ := hinv
            obtain ⟨u199, hinv⟩ := hinv
            obtain ⟨htA, hnum, HGP, HLJ, rfl⟩ := hinv
            dsimp only
            obtain ⟨hgm, hob, hbt, hlo, hlt, hne, hnd, hol⟩ := HLJ.out
            have t0 := hbt.cell 0
            by_cases ht0 : t = 0
            · subst ht0
              have hp := HGP.out
              rw [grp_zero] at hp
              obtain rfl := Option.some.inj hp
              have GMH := Lib.hid hgm
              have OB := Lib.hid hob
              have HOL := Lib.hid hol
              have HND := Lib.hid hnd
              clear hgm hob hol hnd
              go_wp2
              refine leaves_marks Ds _ HND.out (fun D hD => (GMH.out.d D hD).2.2) (fun w' hw' => ?_)
              refine ⟨.tuple #[.slice (some ⟨ob, 0, none⟩) l.length l.length, .int .i64 0], by simp [results, Try.f19, go_sem], ?_⟩
              exact HP.out _ _ ⟨_, by rw [← HE.out, HER.out], GMH.out.g.x.then_only hw' (fun D hD => Nat.le_trans HW0.out.1 (GMH.out.d D hD).1), .inr ⟨by rw [← HE.out, HER.out], ob, _, rfl, Nat.le_trans HW0.out.1 hlo, HRES.out, HOL.out, OB.out.only hw' (fun hD => nblk_of (GMH.out.d ob hD).2.2 rfl _ _ OB.out)⟩⟩
            · obtain ⟨g, hg⟩ : ∃ g, 11 - num = g + 1 := by
                rcases hh : 11 - num with _ | g
                · have hp := HGP.out
                  rw [hh, grp_none ht0] at hp
                  cases hp
                · exact ⟨g, rfl⟩
              have hgo := HGP.out
              rw [hg, grp_go ht0, hol] at hgo
              have htp : (0:Int) < (t:Int) := by omega
              have ht1024 : t < 1024 := by omega
              have hlow := low_i64 t ht1024
              have hlw1 := lowN_le t
              obtain ⟨f, hf⟩ : ∃ f, f = lowN t := ⟨_, rfl⟩
              rw [← hf] at hlow hlw1
              have hsub := subsets_any (t : Int)
              have hwb : W0.heap.size ≤ wr.heap.size := Nat.le_of_lt (Nat.lt_of_le_of_lt hlo hob.lt)
              have GMH := Lib.hid hgm
              have OB := Lib.hid hob
              have BT := Lib.hid hbt
              have LO := Lib.hid hlo
              have LT := Lib.hid hlt
              have NOT := Lib.hid hne
              have HND := Lib.hid hnd
              have HOL := Lib.hid hol
              have HGO := Lib.hid hgo
              have HF := Lib.hid hf
              have HSUB := Lib.hid hsub
              have HG1 := Lib.hid hg
              have HWB := Lib.hid hwb
              clear hgm hob hbt hlo hlt hne hnd hol hgo hf hsub hg hwb
              clear HLJ HGP
              go_upto_region 40 with (first
                | (with_reducible refine wpList_setK (i := 0) (v := .int .i64 0) rfl rfl BB.out ?_ ?_ ?_ ?_ ?_ ?_ ?_
                   · rfl
                   · rfl
                   · show 0 < 1; omega
                   · kernel_rfl
                   · rfl
                   · rfl
                   rintro w8 hb8' ho8
                   have hb9' : Blk w8 bb #[.int .i64 ((0 : Nat) : Int)] 3 := hb8'
                   have lf := LB.out
                   have hw0 := HW0.out
                   have hgm := GMH.out.only ho8 BB.out ⟨by omega, by omega, by omega, by omega⟩ (by omega)
                   have hob := OB.out.only ho8 NOB.out
                   have hbt := BT.out.only ho8 NTB.out
                   have hfb := FB.out.only ho8 NFB.out
                   have hwb := Nat.le_trans HWB.out ho8.size
                   have t0 := hbt.cell 0
                   clear GMH FB OB BT BB hb8' ho8 lf hw0 HWB
                   have BB := Lib.hid hb9'
                   have FB := Lib.hid hfb
                   have GMH := Lib.hid hgm
                   have OB := Lib.hid hob
                   have BT := Lib.hid hbt
                   have HWB := Lib.hid hwb
                   clear hb9' hfb hgm hob hbt hwb)
                | (with_reducible refine wpList_alloc1 rfl rfl Try.zeroValue3 rfl ?_
                   rintro bb w6 hb7 hx7 hl7
                   have hgm := GMH.out.ext hx7
                   have hob := OB.out.ext hx7
                   have hbt := BT.out.ext hx7
                   have hfb := FB.out.ext hx7
                   have t0 := hbt.cell 0
                   have lf := Nat.le_trans HWB.out hl7
                   have hwb := Nat.le_trans HWB.out hx7.size
                   have n1 : ob ≠ bb := by have := OB.out.lt; omega
                   have n2 : tb ≠ bb := by have := BT.out.lt; omega
                   have n3 : fb ≠ bb := by have := FB.out.lt; omega
                   clear GMH OB BT FB HWB
                   have BB := Lib.hid hb7
                   have GMH := Lib.hid hgm
                   have OB := Lib.hid hob
                   have BT := Lib.hid hbt
                   have FB := Lib.hid hfb
                   have LB := Lib.hid lf
                   have NOB := Lib.hid n1
                   have NTB := Lib.hid n2
                   have NFB := Lib.hid n3
                   have HWB := Lib.hid hwb
                   clear hb7 hgm hob hbt hfb lf n1 n2 n3 hwb
                   clear hx7 hl7)
                | (with_reducible refine wpList_setK (i := 0) (v := .int .i64 (f : Int)) rfl rfl FB.out ?_ ?_ ?_ ?_ ?_ ?_ ?_
                   · rfl
                   · rfl
                   · show 0 < 1; omega
                   · kernel_rfl
                   · rfl
                   · rfl
                   rintro w5 hb8' ho8
                   have hb9' : Blk w5 fb #[.int .i64 (f : Int)] 3 := hb8'
                   have lf := LF.out
                   have hw0 := HW0.out
                   have hgm := GMH.out.only ho8 FB.out ⟨by omega, by omega, by omega, by omega⟩ (by omega)
                   have hob := OB.out.only ho8 NOF.out
                   have hbt := BT.out.only ho8 NTF.out
                   have hwb := Nat.le_trans HWB.out ho8.size
                   have t0 := hbt.cell 0
                   clear GMH FB OB BT hb8' ho8 lf hw0 hlow HWB
                   have FB := Lib.hid hb9'
                   have GMH := Lib.hid hgm
                   have OB := Lib.hid hob
                   have BT := Lib.hid hbt
                   have HWB := Lib.hid hwb
                   clear hb9' hgm hob hbt hwb)
                | (with_reducible refine wpList_alloc1 rfl rfl Try.zeroValue3 rfl ?_
                   rintro fb w4 hb7 hx7 hl7
                   have hgm := GMH.out.ext hx7
                   have hob := OB.out.ext hx7
                   have hbt := BT.out.ext hx7
                   have t0 := hbt.cell 0
                   have lf := Nat.le_trans HWB.out hl7
                   have hwb := Nat.le_trans HWB.out hx7.size
                   have n1 : ob ≠ fb := by have := OB.out.lt; omega
                   have n2 : tb ≠ fb := by have := BT.out.lt; omega
                   clear GMH OB BT HWB
                   have FB := Lib.hid hb7
                   have GMH := Lib.hid hgm
                   have OB := Lib.hid hob
                   have BT := Lib.hid hbt
                   have LF := Lib.hid lf
                   have NOF := Lib.hid n1
                   have NTF := Lib.hid n2
                   have HWB := Lib.hid hwb
                   clear hb7 hgm hob hbt lf n1 n2 hwb
                   clear hx7 hl7))
              go_wp2_with (
                go_at_call 59
                refine (HSUB.out _).mono ?_
                rintro e wx ⟨qb, rfl, hq, hlq, hx⟩
                have hgm := GMH.out.ext hx
                have hob := OB.out.ext hx
                have hbt := BT.out.ext hx
                have hfb := FB.out.ext hx
                have hbb := BB.out.ext hx
                have hwb := Nat.le_trans HWB.out hx.size
                have nqb : qb ≠ bb := by have := BB.out.lt; omega
                clear GMH OB BT FB BB HWB t0
                have GMH := Lib.hid hgm
                have OB := Lib.hid hob
                have BT := Lib.hid hbt
                have FB := Lib.hid hfb
                have BB := Lib.hid hbb
                have QB := Lib.hid hq
                have HWB := Lib.hid hwb
                have NQB := Lib.hid nqb
                clear hgm hob hbt hfb hbb hq hwb nqb
                clear hx hlq HSUB)
              have hri : RJ w b8 b9 gs gm k W0.heap.size wx.heap.size tb fb bb qb ob t f Ds S M o [] wx := ⟨GMH.out.g, BT.out, FB.out, BB.out, QB.out, OB.out, Nat.zero_le _, GMH.out.d⟩
              have hwx : w.heap.size ≤ wx.heap.size := GMH.out.g.x.size
              have HRI := Lib.hid hri
              have HWX := Lib.hid hwx
              clear hri hwx
              clear GMH OB BT FB BB QB
              refine (wpIn_wide (n := 10)).1 (wpIn_rangeLive (by decide) (gf := 93) (lb := #[.pointer (some ⟨qb, 0, none⟩)]) rfl (enters_of Try.func93 (by kernel_rfl) rfl)
                (subsets_gives 9 (by decide) t qb ht1024 wx) (Below.refl _ _) (fun _ => rfl)
                (RJ w b8 b9 gs gm k W0.heap.size wx.heap.size tb fb bb qb ob t f Ds S M o) (RJ.own HWX.out (Nat.le_refl _)) (fun _ _ h => h.bq.cell 0) HRI.out
                (fun L x a1 W => RJ w b8 b9 gs gm k W0.heap.size wx.heap.size tb fb bb qb ob t f Ds S M o L W ∧ (1 ≤ x ∧ x ≤ t) ∧ ∃ v0 v1 v2 v3 v4 v5 v6 v7 v10 v11 v12 v13 v14 v15 v17 v21 v22 v23 v24 v25 v26 v27 v28 v29 v30 v31 v32 v33 v34 v35 v36 v37 v38 v39 v40 v41 v42 v43 v44 v45 v46 v47 v48 v49 v50 v51 v52 v53 v54 v55 v56 v57 v58 v59 v60 v61 v62 v63 v64 v65 v66 v67 v68 v69 v70 v71 v72 v73 v74 v75 v76 v77 v78 v79 v80 v81 v82 v83 v84 v85 v86 v87 v88 v89 v90 v91 v92 v93 v94 v95 v96 v97 v98 v99 v100 v101 v102 v103 v104 v105 v106 v107 v108 v109 v110 v111 v112 v113 v114 v115 v116 v117 v118 v119 v120 v121 v122 v123 v124 v125 v126 v127 v128 v129 v130 v131 v132 v133 v134 v135 v136 v137 v138 v139 v140 v141 v142 v143 v144 v145 v146 v147 v148 v149 v150 v151 v152 v153 v154 v155 v156 v157 v158 v159 v160 v161 v162 v163 v164 v165 v166 v167 v168 v169 v170 v171 v172 v173 v174 v175 v176 v177 v178 v179 v180 v181 v182 v183 v184 v185 v186 v187 v188 v189 v190 v191 v192 v193 v194 v195 v196 v197 v198 v199 : Value, a1 = { tmps := #[v0, v1, v2, v3, v4, v5, v6, v7, .pointer (some ⟨b8, 0, none⟩), .pointer (some ⟨b9, 0, none⟩), v10, v11, v12, v13, v14, v15, .pointer (some ⟨tb, 0, none⟩), v17, .pointer (some ⟨fb, 0, none⟩), .pointer (some ⟨bb, 0, none⟩), .int .i64 (x : Int), v21, v22, v23, v24, v25, v26, v27, v28, v29, v30, v31, v32, v33, v34, v35, v36, v37, v38, v39, v40, v41, v42, v43, v44, v45, v46, v47, v48, v49, v50, v51, v52, v53, v54, v55, v56, v57, v58, v59, v60, v61, v62, v63, v64, v65, v66, v67, v68, v69, v70, v71, v72, v73, v74, v75, v76, v77, v78, v79, v80, v81, v82, v83, v84, v85, v86, v87, v88, v89, v90, v91, v92, v93, v94, v95, v96, v97, v98, v99, v100, v101, v102, v103, v104, v105, v106, v107, v108, v109, v110, v111, v112, v113, v114, v115, v116, v117, v118, v119, v120, v121, v122, v123, v124, v125, v126, v127, v128, v129, v130, v131, v132, v133, v134, v135, v136, v137, v138, v139, v140, v141, v142, v143, v144, v145, v146, v147, v148, v149, v150, v151, v152, v153, v154, v155, v156, v157, v158, v159, v160, v161, v162, v163, v164, v165, v166, v167, v168, v169, v170, v171, v172, v173, v174, v175, v176, v177, v178, v179, v180, v181, v182, v183, v184, v185, v186, v187, v188, v189, v190, v191, v192, v193, v194, v195, v196, v197, v198, v199], defers := [] }) ?hAx ?assign ?body ?done)
              case hAx =>
                intro L x
                rintro a1 W W' row ⟨h1, h2, h3⟩ hgr hr
                exact ⟨RJ.own HWX.out (Nat.le_refl _) L W W' row h1 hgr hr, h2, h3⟩
              case assign =>
                intro l0 L x W K hi hr hK
                have HI2 := Lib.hid hi
                have HR2 := Lib.hid hr
                have HK := Lib.hid hK
                clear hi hr hK
                rw [foldl_one]
                simp only [List.setIfInBounds_toArray, List.set_cons_zero, List.set_cons_succ]
                gi_wp2
                refine HK.out _ _ (keeps_ext (Below.refl _ _)) ⟨HI2.out, HR2.out, ?_⟩
                (repeat apply Exists.intro)
                rfl
              case body =>
                intro l1 L x a1 W hax
                obtain ⟨hri, hx12, hax⟩ := hax
                obtain ⟨v0, hax⟩ := hax
                obtain ⟨v1, hax⟩ := hax
                obtain ⟨v2, hax⟩ := hax
                obtain ⟨v3, hax⟩ := hax
                obtain ⟨v4, hax⟩ := hax
                obtain ⟨v5, hax⟩ := hax
                obtain ⟨v6, hax⟩ := hax
                obtain ⟨v7, hax⟩ := hax
                obtain ⟨v10, hax⟩ := hax
                obtain ⟨v11, hax⟩ := hax
                obtain ⟨v12, hax⟩ := hax
                obtain ⟨v13, hax⟩ := hax
                obtain ⟨v14, hax⟩ := hax
                obtain ⟨v15, hax⟩ := hax
                obtain ⟨v17, hax⟩ := hax
                obtain ⟨v21, hax⟩ := hax
                obtain ⟨v22, hax⟩ := hax
                obtain ⟨v23, hax⟩ := hax
                obtain ⟨v24, hax⟩ := hax
                obtain ⟨v25, hax⟩ := hax
                obtain ⟨v26, hax⟩ := hax
                obtain ⟨v27, hax⟩ := hax
                obtain ⟨v28, hax⟩ := hax
                obtain ⟨v29, hax⟩ := hax
                obtain ⟨v30, hax⟩ := hax
                obtain ⟨v31, hax⟩ := hax
                obtain ⟨v32, hax⟩ := hax
                obtain ⟨v33, hax⟩ := hax
                obtain ⟨v34, hax⟩ := hax
                obtain ⟨v35, hax⟩ := hax
                obtain ⟨v36, hax⟩ := hax
                obtain ⟨v37, hax⟩ := hax
                obtain ⟨v38, hax⟩ := hax
                obtain ⟨v39, hax⟩ := hax
                obtain ⟨v40, hax⟩ := hax
                obtain ⟨v41, hax⟩ := hax
                obtain ⟨v42, hax⟩ := hax
                obtain ⟨v43, hax⟩ := hax
                obtain ⟨v44, hax⟩ := hax
                obtain ⟨v45, hax⟩ := hax
                obtain ⟨v46, hax⟩ := hax
                obtain ⟨v47, hax⟩ := hax
                obtain ⟨v48, hax⟩ := hax
                obtain ⟨v49, hax⟩ := hax
                obtain ⟨v50, hax⟩ := hax
                obtain ⟨v51, hax⟩ := hax
                obtain ⟨v52, hax⟩ := hax
                obtain ⟨v53, hax⟩ := hax
                obtain ⟨v54, hax⟩ := hax
                obtain ⟨v55, hax⟩ := hax
                obtain ⟨v56, hax⟩ := hax
                obtain ⟨v57, hax⟩ := hax
                obtain ⟨v58, hax⟩ := hax
                obtain ⟨v59, hax⟩ := hax
                obtain ⟨v60, hax⟩ := hax
                obtain ⟨v61, hax⟩ := hax
                obtain ⟨v62, hax⟩ := hax
                obtain ⟨v63, hax⟩ := hax
                obtain ⟨v64, hax⟩ := hax
                obtain ⟨v65, hax⟩ := hax
                obtain ⟨v66, hax⟩ := hax
                obtain ⟨v67, hax⟩ := hax
                obtain ⟨v68, hax⟩ := hax
                obtain ⟨v69, hax⟩ := hax
                obtain ⟨v70, hax⟩ := hax
                obtain ⟨v71, hax⟩ := hax
                obtain ⟨v72, hax⟩ := hax
                obtain ⟨v73, hax⟩ := hax
                obtain ⟨v74, hax⟩ := hax
                obtain ⟨v75, hax⟩ := hax
                obtain ⟨v76, hax⟩ := hax
                obtain ⟨v77, hax⟩ := hax
                obtain ⟨v78, hax⟩ := hax
                obtain ⟨v79, hax⟩ := hax
                obtain ⟨v80, hax⟩ := hax
                obtain ⟨v81, hax⟩ := hax
                obtain ⟨v82, hax⟩ := hax
                obtain ⟨v83, hax⟩ := hax
                obtain ⟨v84, hax⟩ := hax
                obtain ⟨v85, hax⟩ := hax
                obtain ⟨v86, hax⟩ := hax
                obtain ⟨v87, hax⟩ := hax
                obtain ⟨v88, hax⟩ := hax
                obtain ⟨v89, hax⟩ := hax
                obtain ⟨v90, hax⟩ := hax
                obtain ⟨v91, hax⟩ := hax
                obtain ⟨v92, hax⟩ := hax
                obtain ⟨v93, hax⟩ := hax
                obtain ⟨v94, hax⟩ := hax
                obtain ⟨v95, hax⟩ := hax
                obtain ⟨v96, hax⟩ := hax
                obtain ⟨v97, hax⟩ := hax
                obtain ⟨v98, hax⟩ := hax
                obtain ⟨v99, hax⟩ := hax
                obtain ⟨v100, hax⟩ := hax
                obtain ⟨v101, hax⟩ := hax
                obtain ⟨v102, hax⟩ := hax
                obtain ⟨v103, hax⟩ := hax
                obtain ⟨v104, hax⟩ := hax
                obtain ⟨v105, hax⟩ := hax
                obtain ⟨v106, hax⟩ := hax
                obtain ⟨v107, hax⟩ := hax
                obtain ⟨v108, hax⟩ := hax
                obtain ⟨v109, hax⟩ := hax
                obtain ⟨v110, hax⟩ := hax
                obtain ⟨v111, hax⟩ := hax
                obtain ⟨v112, hax⟩ := hax
                obtain ⟨v113, hax⟩ := hax
                obtain ⟨v114, hax⟩ := hax
                obtain ⟨v115, hax⟩ := hax
                obtain ⟨v116, hax⟩ := hax
                obtain ⟨v117, hax⟩ := hax
                obtain ⟨v118, hax⟩ := hax
                obtain ⟨v119, hax⟩ := hax
                obtain ⟨v120, hax⟩ := hax
                obtain ⟨v121, hax⟩ := hax
                obtain ⟨v122, hax⟩ := hax
                obtain ⟨v123, hax⟩ := hax
                obtain ⟨v124, hax⟩ := hax
                obtain ⟨v125, hax⟩ := hax
                obtain ⟨v126, hax⟩ := hax
                obtain ⟨v127, hax⟩ := hax
                obtain ⟨v128, hax⟩ := hax
                obtain ⟨v129, hax⟩ := hax
                obtain ⟨v130, hax⟩ := hax
                obtain ⟨v131, hax⟩ := hax
                obtain ⟨v132, hax⟩ := hax
                obtain ⟨v133, hax⟩ := hax
                obtain ⟨v134, hax⟩ := hax
                obtain ⟨v135, hax⟩ := hax
                obtain ⟨v136, hax⟩ := hax
                obtain ⟨v137, hax⟩ := hax
                obtain ⟨v138, hax⟩ := hax
                obtain ⟨v139, hax⟩ := hax
                obtain ⟨v140, hax⟩ := hax
                obtain ⟨v141, hax⟩ := hax
                obtain ⟨v142, hax⟩ := hax
                obtain ⟨v143, hax⟩ := hax
                obtain ⟨v144, hax⟩ := hax
                obtain ⟨v145, hax⟩ := hax
                obtain ⟨v146, hax⟩ := hax
                obtain ⟨v147, hax⟩ := hax
                obtain ⟨v148, hax⟩ := hax
                obtain ⟨v149, hax⟩ := hax
                obtain ⟨v150, hax⟩ := hax
                obtain ⟨v151, hax⟩ := hax
                obtain ⟨v152, hax⟩ := hax
                obtain ⟨v153, hax⟩ := hax
                obtain ⟨v154, hax⟩ := hax
                obtain ⟨v155, hax⟩ := hax
                obtain ⟨v156, hax⟩ := hax
                obtain ⟨v157, hax⟩ := hax
                obtain ⟨v158, hax⟩ := hax
                obtain ⟨v159, hax⟩ := hax
                obtain ⟨v160, hax⟩ := hax
                obtain ⟨v161, hax⟩ := hax
                obtain ⟨v162, hax⟩ := hax
                obtain ⟨v163, hax⟩ := hax
                obtain ⟨v164, hax⟩ := hax
                obtain ⟨v165, hax⟩ := hax
                obtain ⟨v166, hax⟩ := hax
                obtain ⟨v167, hax⟩ := hax
                obtain ⟨v168, hax⟩ := hax
                obtain ⟨v169, hax⟩ := hax
                obtain ⟨v170, hax⟩ := hax
                obtain ⟨v171, hax⟩ := hax
                obtain ⟨v172, hax⟩ := hax
                obtain ⟨v173, hax⟩ := hax
                obtain ⟨v174, hax⟩ := hax
                obtain ⟨v175, hax⟩ := hax
                obtain ⟨v176, hax⟩ := hax
                obtain ⟨v177, hax⟩ := hax
                obtain ⟨v178, hax⟩ := hax
                obtain ⟨v179, hax⟩ := hax
                obtain ⟨v180, hax⟩ := hax
                obtain ⟨v181, hax⟩ := hax
                obtain ⟨v182, hax⟩ := hax
                obtain ⟨v183, hax⟩ := hax
                obtain ⟨v184, hax⟩ := hax
                obtain ⟨v185, hax⟩ := hax
                obtain ⟨v186, hax⟩ := hax
                obtain ⟨v187, hax⟩ := hax
                obtain ⟨v188, hax⟩ := hax
                obtain ⟨v189, hax⟩ := hax
                obtain ⟨v190, hax⟩ := hax
                obtain ⟨v191, hax⟩ := hax
                obtain ⟨v192, hax⟩ := hax
                obtain ⟨v193, hax⟩ := hax
                obtain ⟨v194, hax⟩ := hax
                obtain ⟨v195, hax⟩ := hax
                obtain ⟨v196, hax⟩ := hax
                obtain ⟨v197, hax⟩ := hax
                obtain ⟨v198, hax⟩ := hax
                obtain ⟨v199, hax⟩ := hax
                subst hax
                dsimp only
                obtain ⟨x1, x2⟩ := hx12
                have hand : bits .and .i64 (x : Int) (f : Int) = ((x &&& f : Nat) : Int) := and_i64 x f (by omega) (by omega)
                have c8 := hri.g.h8.cell 0
                have c9 := hri.g.h9.cell 0
                have cx := hri.g.cS (i := x) (by omega)
                have cf := hri.bf.cell 0
                have ct := hri.bt.cell 0
                have cmt := hri.g.cM (i := t) (by omega)
                have hyN : t ^^^ x < k := by
                  have h1 := HNL.out
                  rw [h1]
                  exact Nat.xor_lt_two_pow (by rw [← h1]; omega) (by rw [← h1]; omega)
                have cmy := hri.g.cM hyN
                have hxor := xor_i64 t x (by omega) (by omega)
                have hsm := gI_small HSM2.out.2 (by omega) (t ^^^ x)
                have j1 : (0:Int) ≤ (x:Int) := by omega
                have j2 : (x:Int) < (k:Int) := by omega
                have j3 : (0:Int) ≤ (t:Int) := by omega
                have j4 : (t:Int) < (k:Int) := by omega
                have hfo := bFold_snoc S M t L x 0
                have hbl := hri.le
                have hb0 := hri.bb_.cell 0
                obtain ⟨b, hb⟩ : ∃ b, b = L.foldl (bStep S M t) 0 := ⟨_, rfl⟩
                rw [← hb] at hfo hbl hb0
                have hskip := bStep_skip (S := S) (M := M) (t := t) (b := b) (x := x)
                have htake := bStep_take (S := S) (M := M) (t := t) (b := b) (x := x)
                have hkeep := bStep_keep (S := S) (M := M) (t := t) (b := b) (x := x)
                rw [← HF.out] at hskip htake
                obtain ⟨y, hy⟩ : ∃ y, y = t ^^^ x := ⟨_, rfl⟩
                obtain ⟨z, hz⟩ : ∃ z, z = x &&& f := ⟨_, rfl⟩
                obtain ⟨s, hs⟩ : ∃ g, g = gI S x := ⟨_, rfl⟩
                obtain ⟨m2, hm2⟩ : ∃ g, g = gI M t := ⟨_, rfl⟩
                rw [← hy] at hyN hxor cmy hsm hskip htake
                obtain ⟨m1, hm1⟩ : ∃ g, g = gI M y := ⟨_, rfl⟩
                rw [← hz] at hand hskip htake
                rw [← hs] at cx hskip htake
                rw [← hm2] at cmt hskip htake
                rw [← hm1] at cmy hsm hskip htake
                have hwr : IntKind.i64.wrap (m1 + 1) = m1 + 1 := i64_eq _ ⟨by omega, by omega⟩
                have y1 : (0:Int) ≤ (y:Int) := by omega
                have y2 : (y:Int) < (k:Int) := by omega
                have hend : (∀ b2, b2 = bStep S M t b x → b2 = b → ∀ W', Ext W W' → RJ w b8 b9 gs gm k W0.heap.size wx.heap.size tb fb bb qb ob t f Ds S M o (L ++ [x]) W') := fun b2 h1 h2 W' hx => by
                  have h := hri.ext hx
                  have e : (L ++ [x]).foldl (bStep S M t) 0 = L.foldl (bStep S M t) 0 := by rw [hfo, ← h1, h2, hb]
                  exact ⟨h.g, h.bt, h.bf, by rw [e]; exact h.bb_, h.bq, h.bo, by rw [e]; exact h.le, h.d⟩
                have RJH := Lib.hid hri
                have HFO := Lib.hid hfo
                have HEND := Lib.hid hend
                have HSK := Lib.hid hskip
                have HTK := Lib.hid htake
                have HKP := Lib.hid hkeep
                have HBL := Lib.hid hbl
                have HBE := Lib.hid hb
                clear hri hfo hend hskip htake hkeep hbl hb
                clear hz hs hm1 hm2 hy hsm
                by_cases q1 : z = 0
                · have q2 : ((z : Int) == 0) = true := by rw [q1]; rfl
                  have HB2 := Lib.hid (HSK.out (.inl q1))
                  clear q1 HSK HTK HKP
                  gi_wp2
                  refine wpIn_region_quietR (by kernel_rfl) (by kernel_rfl) (by kernel_rfl) (by rintro ⟨_, _, h⟩; exact h) ?_
                  repeat (go_big_quiet_step (fail))
                  refine wpQuiet_nil ?_
                  intro _ hw'
                  obtain ⟨nq, hw2⟩ := hw'
                  subst hw2
                  gi_wp2
                  exact ⟨keeps_ext (Ext.of_drewN _ _), HEND.out _ rfl HB2.out _ (Ext.of_drewN _ _)⟩
                · have q2 : ((z : Int) == 0) = false := by rw [beq_eq_false_iff_ne]; exact fun e => q1 (Int.ofNat.inj e)
                  by_cases q3 : s = 0
                  · by_cases q4 : m1 + 1 = m2
                    · have q5 : (m1 + 1 != m2) = false := by simpa using q4
                      have q6 : (s != 0) = false := by simpa using q3
                      have htk := HTK.out (by rintro (h | h | h); exact q1 h; exact h q3; exact h q4)
                      have hkp := HKP.out
                      have hbl := HBL.out
                      have hd := xor_i64 x b (by omega) (by omega)
                      have hd1024 : x ^^^ b < 1024 := Nat.xor_lt_two_pow (n := 10) (by omega) (by omega)
                      have hld := low_i64 (x ^^^ b) hd1024
                      have hlle := lowN_le (x ^^^ b)
                      have hand2 := and_i64 (lowN (x ^^^ b)) x (by omega) (by omega)
                      obtain ⟨d, hd0⟩ : ∃ d, d = x ^^^ b := ⟨_, rfl⟩
                      rw [← hd0] at hd hld hand2 htk hkp hd1024
                      obtain ⟨e, he⟩ : ∃ e, e = lowN d := ⟨_, rfl⟩
                      rw [← he] at hld hand2 htk hkp
                      obtain ⟨u, hu⟩ : ∃ u, u = e &&& x := ⟨_, rfl⟩
                      rw [← hu] at hand2 htk hkp
                      have TK := Lib.hid htk
                      have KP := Lib.hid hkp
                      clear htk hkp
                      clear q1 q3 q4 HSK HTK HKP hd0 he hu hlle
                      by_cases r1 : b = 0
                      · have r2 : ((b : Int) == 0) = true := by rw [r1]; rfl
                        have HB2 := Lib.hid (TK.out (.inl r1))
                        clear r1 TK KP
                        gi_wp2
                        refine wpIn_region_quietR (by kernel_rfl) (by kernel_rfl) (by kernel_rfl) (by rintro ⟨_, _, h⟩; exact h) ?_
                        repeat (go_big_quiet_step (fail))
                        refine wpQuiet_nil ?_
                        intro _ hw'
                        obtain ⟨nq, hw2⟩ := hw'
                        subst hw2
                        have hr := RJH.out.ext (Ext.of_drewN W nq)
                        have hxq : Ext W (W.drewN nq) := Ext.of_drewN _ _
                        generalize W.drewN nq = wq at *
                        have hb0 := hr.bb_.cell 0
                        have hf0 := hr.bf.cell 0
                        rw [← HBE.out] at hb0
                        have HXQ := Lib.hid hxq
                        have RQ := Lib.hid hr
                        clear hxq hr
                        gi_wp2_with (
                          with_reducible refine wpListIn_setK (b := bb) (i := 0) (v := .int .i64 (x : Int)) rfl rfl RQ.out.bb_ ?_ ?_ ?_ ?_ ?_ ?_ ?_
                          · rfl
                          · rfl
                          · show 0 < 1; omega
                          · kernel_rfl
                          · rfl
                          · rfl
                          rintro W3 hb3 ho3
                          have hb4 : Blk W3 bb #[.int .i64 (x : Int)] 3 := hb3
                          clear hb3 hb0 hf0
                          have B3 := Lib.hid hb4
                          have O3 := Lib.hid ho3
                          clear hb4 ho3)
                        have lf := LB.out
                        have hw0 := HW0.out
                        have e2 : (L ++ [x]).foldl (bStep S M t) 0 = x := by rw [HFO.out, HB2.out]
                        exact ⟨(keeps_ext HXQ.out).trans (keeps_blk O3.out RQ.out.bb_), ⟨RQ.out.g.only O3.out ⟨by omega, by omega, by omega, by omega⟩ (by omega), RQ.out.bt.only O3.out NTB.out, RQ.out.bf.only O3.out NFB.out, by rw [e2]; exact B3.out, RQ.out.bq.only O3.out NQB.out, RQ.out.bo.only O3.out NOB.out, by rw [e2]; exact x2, RQ.out.d.blk O3.out RQ.out.bb_⟩⟩
                      · have r2 : ((b : Int) == 0) = false := by rw [beq_eq_false_iff_ne]; exact fun e => r1 (Int.ofNat.inj e)
                        by_cases r3 : u = 0
                        · have r4 : ((u : Int) != 0) = false := by rw [r3]; rfl
                          have HB2 := Lib.hid (KP.out (by rintro (h | h); exact r1 h; exact h r3))
                          clear r1 r3 TK KP
                          gi_wp2
                          refine wpIn_region_quietR (by kernel_rfl) (by kernel_rfl) (by kernel_rfl) (by rintro ⟨_, _, h⟩; exact h) ?_
                          repeat (go_big_quiet_step (fail))
                          refine wpQuiet_nil ?_
                          intro _ hw'
                          obtain ⟨nq, hw2⟩ := hw'
                          subst hw2
                          have hr := RJH.out.ext (Ext.of_drewN W nq)
                          have hxq : Ext W (W.drewN nq) := Ext.of_drewN _ _
                          generalize W.drewN nq = wq at *
                          have hb0 := hr.bb_.cell 0
                          have hf0 := hr.bf.cell 0
                          rw [← HBE.out] at hb0
                          have HXQ := Lib.hid hxq
                          clear hxq
                          clear hr
                          gi_wp2
                          exact ⟨keeps_ext HXQ.out, HEND.out _ rfl HB2.out _ HXQ.out⟩
                        · have r4 : ((u : Int) != 0) = true := by
                            have : (u : Int) ≠ 0 := fun e => r3 (Int.ofNat.inj e)
                            simpa using this
                          have HB2 := Lib.hid (TK.out (.inr r3))
                          clear r1 r3 TK KP
                          gi_wp2
                          refine wpIn_region_quietR (by kernel_rfl) (by kernel_rfl) (by kernel_rfl) (by rintro ⟨_, _, h⟩; exact h) ?_
                          repeat (go_big_quiet_step (fail))
                          refine wpQuiet_nil ?_
                          intro _ hw'
                          obtain ⟨nq, hw2⟩ := hw'
                          subst hw2
                          have hr := RJH.out.ext (Ext.of_drewN W nq)
                          have hxq : Ext W (W.drewN nq) := Ext.of_drewN _ _
                          generalize W.drewN nq = wq at *
                          have hb0 := hr.bb_.cell 0
                          have hf0 := hr.bf.cell 0
                          rw [← HBE.out] at hb0
                          have HXQ := Lib.hid hxq
                          have RQ := Lib.hid hr
                          clear hxq hr
                          gi_wp2_with (
                            with_reducible refine wpListIn_setK (b := bb) (i := 0) (v := .int .i64 (x : Int)) rfl rfl RQ.out.bb_ ?_ ?_ ?_ ?_ ?_ ?_ ?_
                            · rfl
                            · rfl
                            · show 0 < 1; omega
                            · kernel_rfl
                            · rfl
                            · rfl
                            rintro W3 hb3 ho3
                            have hb4 : Blk W3 bb #[.int .i64 (x : Int)] 3 := hb3
                            clear hb3 hb0 hf0
                            have B3 := Lib.hid hb4
                            have O3 := Lib.hid ho3
                            clear hb4 ho3)
                          have lf := LB.out
                          have hw0 := HW0.out
                          have e2 : (L ++ [x]).foldl (bStep S M t) 0 = x := by rw [HFO.out, HB2.out]
                          exact ⟨(keeps_ext HXQ.out).trans (keeps_blk O3.out RQ.out.bb_), ⟨RQ.out.g.only O3.out ⟨by omega, by omega, by omega, by omega⟩ (by omega), RQ.out.bt.only O3.out NTB.out, RQ.out.bf.only O3.out NFB.out, by rw [e2]; exact B3.out, RQ.out.bq.only O3.out NQB.out, RQ.out.bo.only O3.out NOB.out, by rw [e2]; exact x2, RQ.out.d.blk O3.out RQ.out.bb_⟩⟩
                    · have q5 : (m1 + 1 != m2) = true := by simpa using q4
                      have q6 : (s != 0) = false := by simpa using q3
                      have HB2 := Lib.hid (HSK.out (.inr (.inr q4)))
                      clear q1 q3 q4 HSK HTK HKP
                      gi_wp2
                      refine wpIn_region_quietR (by kernel_rfl) (by kernel_rfl) (by kernel_rfl) (by rintro ⟨_, _, h⟩; exact h) ?_
                      repeat (go_big_quiet_step (fail))
                      refine wpQuiet_nil ?_
                      intro _ hw'
                      obtain ⟨nq, hw2⟩ := hw'
                      subst hw2
                      gi_wp2
                      exact ⟨keeps_ext (Ext.of_drewN _ _), HEND.out _ rfl HB2.out _ (Ext.of_drewN _ _)⟩
                  · have q6 : (s != 0) = true := by simpa using q3
                    have HB2 := Lib.hid (HSK.out (.inr (.inl q3)))
                    clear q1 q3 HSK HTK HKP
                    gi_wp2
                    refine wpIn_region_quietR (by kernel_rfl) (by kernel_rfl) (by kernel_rfl) (by rintro ⟨_, _, h⟩; exact h) ?_
                    repeat (go_big_quiet_step (fail))
                    refine wpQuiet_nil ?_
                    intro _ hw'
                    obtain ⟨nq, hw2⟩ := hw'
                    subst hw2
                    gi_wp2
                    exact ⟨keeps_ext (Ext.of_drewN _ _), HEND.out _ rfl HB2.out _ (Ext.of_drewN _ _)⟩
              case done =>
                intro D W hD hri hdd
                dsimp only
                have hl := (Array.getElem?_eq_some_iff.1 hdd).1
                have hgm : GD w W b8 b9 gs gm k S M W0.heap.size (D :: Ds) := ⟨hri.g, fun E hE => by
                  rcases List.mem_cons.1 hE with rfl | hE
                  · exact ⟨Nat.le_trans HWB.out hD, hl, hdd⟩
                  · exact (hri.d.size) E hE⟩
                have hnd2 : (D :: Ds).Nodup := List.nodup_cons.2 ⟨fun hm => by have := (hri.d D hm).2.1; omega, HND.out⟩
                have hw1 : W0.heap.size ≤ W.heap.size := Nat.le_trans (Nat.le_trans HWB.out hD) (Nat.le_of_lt hl)
                have hgo := HGO.out
                have hob := hri.bo
                have hbt := hri.bt
                have hbb : Blk W bb #[.int .i64 ((bestO S M t : Nat) : Int)] 3 := hri.bb_
                have hble : bestO S M t ≤ t := hri.le
                obtain ⟨best, hbest⟩ : ∃ b, b = bestO S M t := ⟨_, rfl⟩
                rw [← hbest] at hgo hbb hble
                have GMH := Lib.hid hgm
                have ND2 := Lib.hid hnd2
                have HW1 := Lib.hid hw1
                have OB := Lib.hid hob
                have BT := Lib.hid hbt
                have BB := Lib.hid hbb
                have HGO2 := Lib.hid hgo
                clear hgm hnd2 hw1 hob hbt hbb hgo
                clear hbest hri hdd hl hD HRI HWB HGO
                go_upto_region 47 with (fail)
                go_loopw [182] (fun v wr => ∃ i : Nat, i ≤ l.length ∧ v = .int .i64 i ∧ Hid (GD w wr b8 b9 gs gm k S M W0.heap.size (D :: Ds) ∧ Blk wr tb #[.int .i64 (t : Int)] 3 ∧ Blk wr bb #[.int .i64 (best : Int)] 3 ∧ Blk wr ob (iA (mark best num i o)) 3 ∧ W0.heap.size ≤ wr.heap.size)) (fun v _ => l.length - (intOf v).toNat)
                case atStart => exact ⟨0, Nat.zero_le _, rfl, GMH.out, BT.out, BB.out, OB.out, HW1.out⟩
                case round =>
                  obtain ⟨i, hil, rfl, HR⟩ := hrel
                  clear GMH OB BT BB HW1
                  obtain ⟨hgm, hbt, hbb, hob, hw1⟩ := HR.out
                  by_cases hlt2 : i < l.length
                  · have hi10 : i ≤ 10 := by omega
                    have hbit := bit_i64 best i (by omega) hi10
                    have hmk := mark_succ best num i o
                    have hml := mark_len best num o i
                    obtain ⟨z, hz⟩ : ∃ z, z = best >>> i &&& 1 := ⟨_, rfl⟩
                    rw [← hz] at hbit hmk
                    have b0 := hbb.cell 0
                    have j1 : (0:Int) ≤ (i:Int) := by omega
                    have j2 : (i:Int) < (l.length:Int) := by omega
                    have HSZ3 := Lib.hid (show i < (iA (mark best num i o)).size by rw [iA_size, hml, HOL.out]; exact hlt2)
                    obtain ⟨m0, hm0⟩ : ∃ m, m = mark best num i o := ⟨_, rfl⟩
                    rw [← hm0] at hob hmk HSZ3
                    have GMH := Lib.hid hgm
                    have BT := Lib.hid hbt
                    have BB := Lib.hid hbb
                    have OB := Lib.hid hob
                    have HMK := Lib.hid hmk
                    have HW1 := Lib.hid hw1
                    clear hgm hbt hbb hob hmk hw1
                    clear hz hml hm0 HR
                    by_cases hz1 : z = 1
                    · have q1 : ((z : Int) == 1) = true := by rw [hz1]; rfl
                      have HM3 : Hid (mark best num (i + 1) o = m0.set i num) := Lib.hid (by rw [HMK.out, if_pos hz1])
                      clear hz1 HMK
                      go_wp2_with (
                        with_reducible refine wpList_setK (i := i) (v := .int .i64 (num : Int)) rfl rfl OB.out ?_ ?_ ?_ ?_ ?_ ?_ ?_
                        · rfl
                        · rfl
                        · exact HSZ3.out
                        · kernel_rfl
                        · rfl
                        · rfl
                        rintro w9 hb9 ho9
                        rw [iA_set, ← HM3.out] at hb9
                        have lo := LO.out
                        have hw0 := HW0.out
                        have hgm := GMH.out.only ho9 OB.out ⟨by omega, by omega, by omega, by omega⟩ (by omega)
                        have hbt := BT.out.only ho9 (fun e => NOT.out e.symm)
                        have hbb := BB.out.only ho9 (fun e => NOB.out e.symm)
                        have hw1 := Nat.le_trans HW1.out ho9.size
                        clear GMH OB BT BB HW1 b0 ho9 lo hw0
                        have GMH := Lib.hid hgm
                        have OB := Lib.hid hb9
                        have BT := Lib.hid hbt
                        have BB := Lib.hid hbb
                        have HW1 := Lib.hid hw1
                        clear hgm hb9 hbt hbb hw1)
                      go_roundw
                      case rel => exact ⟨i + 1, by omega, by go_num, GMH.out, BT.out, BB.out, OB.out, HW1.out⟩
                      case measure => simp [intOf]; omega
                    · have q1 : ((z : Int) == 1) = false := by rw [beq_eq_false_iff_ne]; exact fun e => hz1 (Int.ofNat.inj e)
                      have HM3 : Hid (mark best num (i + 1) o = m0) := Lib.hid (by rw [HMK.out, if_neg hz1])
                      clear hz1 HMK
                      go_wp2
                      go_roundw
                      case rel => exact ⟨i + 1, by omega, by go_num, GMH.out, BT.out, BB.out, by rw [HM3.out]; exact OB.out, HW1.out⟩
                      case measure => simp [intOf]; omega
                  · obtain rfl : i = l.length := by omega
                    have t0 := hbt.cell 0
                    have b0 := hbb.cell 0
                    have hxor := xor_i64 t best (by omega) (by omega)
                    have hzA : t ^^^ best ≤ A := by
                      have h1 := HNL.out
                      have h2 : t ^^^ best < 2 ^ l.length := Nat.xor_lt_two_pow (by rw [← h1]; omega) (by rw [← h1]; omega)
                      rw [← h1] at h2
                      omega
                    obtain ⟨z, hz⟩ : ∃ z, z = t ^^^ best := ⟨_, rfl⟩
                    rw [← hz] at hxor hzA
                    have hgo := HGO2.out
                    rw [← hz] at hgo
                    have hg11 : 11 - (num + 1) = g := by have := HG1.out; omega
                    have hml := mark_len best num o l.length
                    rw [HOL.out] at hml
                    obtain ⟨o2, ho2⟩ : ∃ m, m = mark best num l.length o := ⟨_, rfl⟩
                    rw [← ho2] at hob hgo hml
                    rw [← hg11] at hgo
                    have hnum2 : num + 1 ≤ 11 := by have := HG1.out; omega
                    have hn3 : num < num + 1 := Nat.lt_succ_self num
                    have GMH := Lib.hid hgm
                    have BT := Lib.hid hbt
                    have BB := Lib.hid hbb
                    have OB := Lib.hid hob
                    have HW1 := Lib.hid hw1
                    have HGO3 := Lib.hid hgo
                    have HML := Lib.hid hml
                    have HN3 := Lib.hid hnum2
                    clear hgm hbt hbb hob hw1 hgo hml hnum2
                    clear HR hz hg11 ho2 hlt2 hn3
                    go_wp2_with (first
                      | (with_reducible refine wpList_setK (i := 0) (v := .int .i64 (z : Int)) rfl rfl ZB.out ?_ ?_ ?_ ?_ ?_ ?_ ?_
                         · rfl
                         · rfl
                         · show 0 < 1; omega
                         · kernel_rfl
                         · rfl
                         · rfl
                         rintro w11 hb9 ho9
                         have hzb : Blk w11 nb #[.int .i64 (z : Int)] 3 := hb9
                         have lz := LZ.out
                         have hw0 := HW0.out
                         have hgm := GMH.out.only ho9 ZB.out ⟨by omega, by omega, by omega, by omega⟩ (by omega)
                         have hob := OB.out.only ho9 NOZ.out
                         clear GMH OB ZB ho9 lz hw0 hb9
                         have GMH := Lib.hid hgm
                         have OB := Lib.hid hob
                         have ZB := Lib.hid hzb
                         clear hgm hob hzb)
                      | (with_reducible refine wpList_setK (i := 0) (v := .int .i64 (z : Int)) rfl rfl BT.out ?_ ?_ ?_ ?_ ?_ ?_ ?_
                         · rfl
                         · rfl
                         · show 0 < 1; omega
                         · kernel_rfl
                         · rfl
                         · rfl
                         rintro w9 hb9 ho9
                         have hbt2 : Blk w9 tb #[.int .i64 (z : Int)] 3 := hb9
                         have lo := LT.out
                         have hw0 := HW0.out
                         have hgm := GMH.out.only ho9 BT.out ⟨by omega, by omega, by omega, by omega⟩ (by omega)
                         have hob := OB.out.only ho9 NOT.out
                         have hw1 := Nat.le_trans HW1.out ho9.size
                         have t0 := hbt2.cell 0
                         clear GMH OB BT BB HW1 ho9 lo hw0 hb9
                         have GMH := Lib.hid hgm
                         have OB := Lib.hid hob
                         have BT := Lib.hid hbt2
                         have HW1 := Lib.hid hw1
                         clear hgm hob hbt2 hw1)
                      | (with_reducible refine wpList_alloc1 rfl rfl Try.zeroValue3 rfl ?_
                         rintro nb w10 hb7 hx7 hl7
                         have hgm := GMH.out.ext hx7
                         have hob := OB.out.ext hx7
                         have lz := Nat.le_trans HW1.out hl7
                         have noz : ob ≠ nb := by have := OB.out.lt; omega
                         clear GMH OB BT HW1
                         have ZB := Lib.hid hb7
                         have GMH := Lib.hid hgm
                         have OB := Lib.hid hob
                         have LZ := Lib.hid lz
                         have NOZ := Lib.hid noz
                         clear hb7 hgm hob lz noz
                         clear hx7 hl7))
                    refine ⟨⟨z, num + 1, nb, o2, D :: Ds, _, _, _, _, _, _, _, _, _, _, _, _, _, _, _, _, _, _, _, _, _, _, _, _, _, _, _, _, _, _, _, _, _, _, _, _, _, _, _, _, _, _, _, _, _, _, _, _, _, _, _, _, _, _, _, _, _, _, _, _, _, _, _, _, _, _, _, _, _, _, _, _, _, _, _, _, _, _, _, _, _, _, _, _, _, _, _, _, _, _, _, _, _, _, _, _, _, _, _, _, _, _, _, _, _, _, _, _, _, _, _, _, _, _, _, _, _, _, _, _, _, _, _, _, _, _, _, _, _, _, _, _, _, _, _, _, _, _, _, _, _, _, _, _, _, _, _, _, _, _, _, _, _, _, _, _, _, _, _, _, _, _, _, _, _, _, _, _, _, _, _, _, _, _, _, _, _, _, _, _, _, _, _, _, _, _, _, _, _, _, _, _, _, _, hzA, HN3.out, HGO3.out, ⟨GMH.out, OB.out, ZB.out, LO.out, LZ.out, NOZ.out, ND2.out, HML.out⟩, rfl⟩, ?_⟩
                    show 12 - (intOf (.int .i64 ((num + 1 : Nat) : Int))).toNat < 12 - (intOf (.int .i64 (num : Int))).toNat
                    simp only [intOf]
                    have := HN3.out
                    omega
end Go.Proofs.Ytekplfbfkfiabaa
