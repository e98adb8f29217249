/- BooksBalance returns true. -/
import Derived.Test.YtekplfbfkfiabaaPlainBa
import Derived.Test.YtekplfbfkfiabaaKept
import Derived.Test.YtekplfbfkfiabaaBkLawB
import Derived.Test.YtekplfbfkfiabaaBkAwake
import Derived.Deep.CutRange
namespace Go.Proofs.Ytekplfbfkfiabaa
open Go.RowKit Go.Shelf
set_option linter.unusedVariables false
set_option linter.unusedSimpArgs false
attribute [local go_sem] Oper.semAt_some

theorem Blk.ints1 {w : World} {g : Nat} {xs : List Int} {t : TypeId} (h : Blk w g (iA xs) t) (hl : xs.length = 5) : Ints w (.slice (some ⟨g, 1, none⟩) 4 4) (xs.drop 1) := by
  refine ⟨by simp [hl], some ⟨g, 1, none⟩, 4, by simp [hl], (fun e => nomatch e), fun _ => ⟨g, 1, rfl, fun i v hv => ?_⟩⟩
  rw [h.cell]
  rw [List.getElem?_map, List.getElem?_drop] at hv
  rw [show (iA xs)[1 + i]? = (xs.map (Value.int .i64))[1 + i]? from by simp [iA, iV], List.getElem?_map]
  exact hv

set_option maxRecDepth 100000 in
set_option maxHeartbeats 8000000 in
theorem balance_true (key : Int) (l : List AccD) (ds : List DeedD) (day : Int) (va vd : Value) (w : World) (ha : AccIn w va l) (hd : DeedIn w vd ds) (hk : U64 key) (hday : I64 day) (hb : l.length * 16 ≤ 140737488355328) :
    Calls Try.prog 7 #[.int .u64 key, va, vd, .int .i64 day] w fun e w' => e = .returned (.bool true) ∧ Ext w w' := by
  have hp : ∀ e w', e = Ending.returned (.bool true) ∧ Ext w w' → e = Ending.returned (.bool true) ∧ Ext w w' := fun _ _ h => h
  have hal := ha.len
  have hdl := hd.len
  obtain ⟨aa, ca, rfl, HA⟩ := ha.form
  obtain ⟨ad, cd, rfl, HD⟩ := hd.form
  clear ha hd
  have HP := Lib.hid hp
  clear hp
  by_cases hc : checkE l = 0
  · have hl40 : 1 ≤ l.length ∧ l.length ≤ 40 := (LedOk.new hk hc).n1
    have i3 : ((l.length : Int) > 40) = False := by simp; omega
    have HB := Lib.hid hb
    by_cases hn : ds.length ≤ 60
    · have i2 : (ds.length : Int) ≤ 60 := by omega
      have hkp := fun (w1 : World) (v1 v2 : Value) (h1 : AccIn w1 v1 l) (h2 : DeedIn w1 v2 ds) => kept_any key l ds v1 v2 w1 h1 h2 hk hc hn
      have hpk := fun W => pick_any day 200 W hday (by unfold I64; omega)
      have hpr := pick_pos day 200 (by omega)
      obtain ⟨p, hp⟩ : ∃ p, p = pick day 200 := ⟨_, rfl⟩
      rw [← hp] at hpk hpr
      obtain ⟨hl1, hl2⟩ := hl40
      have HKP := Lib.hid hkp
      have HPK := Lib.hid hpk
      have HPR := Lib.hid hpr
      have HC := Lib.hid hc
      clear hkp hpk hpr hc
      clear hp hk
      go_enter Try.func7, Try.ntmps7
      go_upto_region 4 with (first
        | (go_at_call 25
           refine (accounts_big l _ _ HA.out HB.out).mono ?_
           rintro e w1 ⟨v1, rfl, hx1, ho1⟩
           have h1 : AccIn w1 v1 l := StIn.of_owns accC_len ho1 hal
           replace HA := Lib.hid (HA.out.ext hx1)
           replace HD := Lib.hid (HD.out.ext hx1)
           clear ho1
           obtain ⟨a1, c1, rfl, _⟩ := h1.form
           have X := Lib.hid hx1
           have I1 := Lib.hid h1
           clear hx1 h1)
        | (go_at_call 26
           refine (check_any l _ _ I1.out).mono ?_
           rintro e w2 ⟨rfl, hx2⟩
           rw [HC.out]
           replace HA := Lib.hid (HA.out.ext hx2)
           replace HD := Lib.hid (HD.out.ext hx2)
           replace X := Lib.hid (X.out.ext hx2)
           replace I1 := Lib.hid (I1.out.ext hx2)
           clear hx2))
      go_upto_region 8 with (first
        | (go_at_call 27
           refine (HKP.out _ _ _ I1.out HD.out).mono ?_
           rintro e w3 ⟨lb, d, m, dy, rfl, hls, hkp, _, hx3⟩
           obtain ⟨B, hB⟩ : ∃ B, B = w2.heap.size := ⟨_, rfl⟩
           rw [← hB] at hls
           clear hB
           replace HA := Lib.hid (HA.out.ext hx3)
           replace X := Lib.hid (X.out.ext hx3)
           clear I1 HD hx3
           have L := Lib.hid hls
           have KP := Lib.hid hkp
           clear hls hkp)
        | (go_at_call 24; refine (HPK.out _).mono ?_; rintro e w' ⟨rfl, rfl⟩))
      have hnb := newB w3 #[.int .i64 p, .int .i64 100000] 3
      have hli : Ints (w3.alloc (.cells #[.int .i64 p, .int .i64 100000] 3)) (.slice (some ⟨w3.heap.size, 0, none⟩) 2 2) [p, 100000] := lit_ints w3 _ _ 2 rfl rfl (by decide)
      have hxl := hnb.2.1
      clear hnb
      generalize w3.alloc (.cells #[.int .i64 p, .int .i64 100000] 3) = w4 at *
      obtain ⟨nb, hnb⟩ : ∃ n, w3.heap.size = n := ⟨_, rfl⟩
      rw [hnb] at hli ⊢
      replace HA := Lib.hid (HA.out.ext hxl)
      replace L := Lib.hid (L.out.ext hxl)
      replace X := Lib.hid (X.out.ext hxl)
      have HG := Lib.hid (fun (i : Nat) (hi : i < d.n) => good_of KP.out.ok hi)
      have LI := Lib.hid hli
      clear hli
      clear hnb hxl
      go_loopw [51] (fun t wr => ∃ j : Nat, j ≤ 2 ∧ t = .int .i64 j ∧ Hid (Ext w4 wr)) (fun t _ => 2 - (intOf t).toNat)
      case atStart => exact ⟨0, by omega, rfl, Below.refl _ _⟩
      case round =>
        obtain ⟨j, hj, rfl, HX⟩ := hrel
        by_cases hlt : j < 2
        · obtain ⟨b4, o4, hv4, hc4⟩ := Ints.cells (LI.out.ext HX.out) (by simp)
          cases hv4
          have c0 := hc4 j hlt
          rw [Nat.zero_add] at c0
          have hon : 0 ≤ [p, (100000 : Int)][j]'hlt ∧ [p, (100000 : Int)][j]'hlt ≤ 100000 := by
            have := HPR.out
            have hj2 : j = 0 ∨ j = 1 := by omega
            rcases hj2 with rfl | rfl
            · show 0 ≤ p ∧ p ≤ 100000; omega
            · show (0 : Int) ≤ 100000 ∧ (100000 : Int) ≤ 100000; omega
          obtain ⟨on, hone⟩ : ∃ y, y = [p, (100000 : Int)][j]'hlt := ⟨_, rfl⟩
          rw [← hone] at c0 hon
          clear hone hc4
          have j1 : (0:Int) ≤ (j:Int) := by omega
          have j2 : (j:Int) < 2 := by omega
          have hls := L.out.ext HX.out
          have ha2 := HA.out.ext HX.out
          have hxw := X.out.tr HX.out
          have ON := Lib.hid hon
          have LS := Lib.hid hls
          have HA2 := Lib.hid ha2
          have XW := Lib.hid hxw
          clear hon hls ha2 hxw
          go_upto_region 10 with (fail)
          clear c0
          obtain ⟨ws, rfl⟩ : ∃ W, W = wr := ⟨wr, rfl⟩
          go_cut [14, 15] from 55 to 56 (fun a b W => ∃ g1 g2, a = .slice (some ⟨g1, 0, none⟩) 5 5 ∧ b = .slice (some ⟨g2, 0, none⟩) 5 5 ∧ Hid (Blk W g1 (iA (sumT d on 0)) 3 ∧ Blk W g2 (iA (stkT d on 0)) 3 ∧ g1 ≠ g2 ∧ ws.heap.size ≤ g1 ∧ ws.heap.size ≤ g2 ∧ Ext ws W))
          case first =>
            as_aux_lemma =>
              have hxd : Ext ws ws.drew := (Below.refl _ ws).drew
              refine wp_region_K (fun _ => True) 4 (by kernel_rfl) trivial (fun hHeld => ?_)
              have XC := Lib.hid hxd
              clear hxd
              generalize ws.drew = wy at *
              refine wpAnyK_ready (rs := [0, 1]) (by kernel_rfl) (by simp) ?_
              refine AllReadyK.consL (i := 0) rfl (fun K hK => ?_) ?_
              · refine step_makeI tInts rfl rfl (n := 5) rfl rfl (by omega) (by omega) ?_
                intro g1 wn hb hx hl
                have l1 := Nat.le_trans XC.out.size hl
                replace XC := Lib.hid (XC.out.ext hx)
                have B1 := Lib.hid hb
                have L1 := Lib.hid l1
                clear hb l1
                clear hx hl
                refine hK.out _ _ (fun _ => trivial) (fun hHeld2 => ?_)
                clear hK K
                try clear hHeld
                have hHeld := hHeld2 (by decide)
                clear hHeld2
                try simp only [Act.put, List.setIfInBounds_toArray, List.set_cons_zero, List.set_cons_succ]
                refine wpAnyK_takeL (i := 2) (v := ?_) rfl (by kernel_rfl) (by kernel_rfl) (by kernel_rfl) (by kernel_rfl) (fun _ _ _ h => h) (Or.inl ⟨by rfl, ?_⟩) hHeld ?_
                rotate_left
                · intro w hSw; (try dsimp only at hSw); go_simp; (try with_reducible rfl)
                try simp only [Act.put, List.setIfInBounds_toArray, List.set_cons_zero, List.set_cons_succ]
                refine wpAnyK_ready (rs := [1]) (by kernel_rfl) (by simp) ?_
                refine AllReadyK.consL (i := 1) rfl (fun K hK => ?_) ?_
                · refine step_makeI tInts rfl rfl (n := 5) rfl rfl (by omega) (by omega) ?_
                  intro g2 wm hb hx hl
                  have l2 := Nat.le_trans XC.out.size hl
                  have n12 : g1 ≠ g2 := by have := B1.out.lt; omega
                  replace XC := Lib.hid (XC.out.ext hx)
                  replace B1 := Lib.hid (B1.out.ext hx)
                  have B2 := Lib.hid hb
                  have L2 := Lib.hid l2
                  have N12 := Lib.hid n12
                  clear hb l2 n12
                  clear hx hl
                  refine hK.out _ _ (fun _ => trivial) (fun hHeld2 => ?_)
                  clear hK K
                  try clear hHeld
                  have hHeld := hHeld2 (by decide)
                  clear hHeld2
                  try simp only [Act.put, List.setIfInBounds_toArray, List.set_cons_zero, List.set_cons_succ]
                  refine wpAnyK_takeL (i := 3) (v := ?_) rfl (by kernel_rfl) (by kernel_rfl) (by kernel_rfl) (by kernel_rfl) (fun _ _ _ h => h) (Or.inl ⟨by rfl, ?_⟩) hHeld ?_
                  rotate_left
                  · intro w hSw; (try dsimp only at hSw); go_simp; (try with_reducible rfl)
                  try simp only [Act.put, List.setIfInBounds_toArray, List.set_cons_zero, List.set_cons_succ]
                  clear hHeld
                  refine wpAnyK_done (by kernel_rfl) ?_ _
                  go_wp2
                  go_meet
                  case rel => exact ⟨g1, g2, rfl, rfl, B1.out, B2.out, N12.out, L1.out, L2.out, XC.out⟩
                · exact AllReadyK.nil
              refine AllReadyK.consL (i := 1) rfl (fun K hK => ?_) ?_
              · refine step_makeI tInts rfl rfl (n := 5) rfl rfl (by omega) (by omega) ?_
                intro g2 wn hb hx hl
                have l2 := Nat.le_trans XC.out.size hl
                replace XC := Lib.hid (XC.out.ext hx)
                have B2 := Lib.hid hb
                have L2 := Lib.hid l2
                clear hb l2
                clear hx hl
                refine hK.out _ _ (fun _ => trivial) (fun hHeld2 => ?_)
                clear hK K
                try clear hHeld
                have hHeld := hHeld2 (by decide)
                clear hHeld2
                try simp only [Act.put, List.setIfInBounds_toArray, List.set_cons_zero, List.set_cons_succ]
                refine wpAnyK_ready (rs := [0]) (by kernel_rfl) (by simp) ?_
                refine AllReadyK.consL (i := 0) rfl (fun K hK => ?_) ?_
                · refine step_makeI tInts rfl rfl (n := 5) rfl rfl (by omega) (by omega) ?_
                  intro g1 wm hb hx hl
                  have l1 := Nat.le_trans XC.out.size hl
                  have n12 : g1 ≠ g2 := by have := B2.out.lt; omega
                  replace XC := Lib.hid (XC.out.ext hx)
                  replace B2 := Lib.hid (B2.out.ext hx)
                  have B1 := Lib.hid hb
                  have L1 := Lib.hid l1
                  have N12 := Lib.hid n12
                  clear hb l1 n12
                  clear hx hl
                  refine hK.out _ _ (fun _ => trivial) (fun hHeld2 => ?_)
                  clear hK K
                  try clear hHeld
                  have hHeld := hHeld2 (by decide)
                  clear hHeld2
                  try simp only [Act.put, List.setIfInBounds_toArray, List.set_cons_zero, List.set_cons_succ]
                  refine wpAnyK_takeL (i := 2) (v := ?_) rfl (by kernel_rfl) (by kernel_rfl) (by kernel_rfl) (by kernel_rfl) (fun _ _ _ h => h) (Or.inl ⟨by rfl, ?_⟩) hHeld ?_
                  rotate_left
                  · intro w hSw; (try dsimp only at hSw); go_simp; (try with_reducible rfl)
                  try simp only [Act.put, List.setIfInBounds_toArray, List.set_cons_zero, List.set_cons_succ]
                  refine wpAnyK_takeL (i := 3) (v := ?_) rfl (by kernel_rfl) (by kernel_rfl) (by kernel_rfl) (by kernel_rfl) (fun _ _ _ h => h) (Or.inl ⟨by rfl, ?_⟩) hHeld ?_
                  rotate_left
                  · intro w hSw; (try dsimp only at hSw); go_simp; (try with_reducible rfl)
                  try simp only [Act.put, List.setIfInBounds_toArray, List.set_cons_zero, List.set_cons_succ]
                  clear hHeld
                  refine wpAnyK_done (by kernel_rfl) ?_ _
                  go_wp2
                  go_meet
                  case rel => exact ⟨g1, g2, rfl, rfl, B1.out, B2.out, N12.out, L1.out, L2.out, XC.out⟩
                · exact AllReadyK.nil
              · exact AllReadyK.nil
          case rest =>
            obtain ⟨g1, g2, rfl, rfl, HCUT⟩ := hcut
            go_upto_region 12 with (fail)
            obtain ⟨hb1, hb2, hn12, hg1, hg2, hxc⟩ := HCUT.out
            have BT1 := Lib.hid hb1
            have BT2 := Lib.hid hb2
            have XC := Lib.hid hxc
            have N12 := Lib.hid hn12
            have G1 := Lib.hid hg1
            have G2 := Lib.hid hg2
            clear hn12 hg1 hg2
            clear HCUT hb1 hb2 hxc
            go_loopw [16] (fun t wr => ∃ i : Nat, i ≤ l.length ∧ t = .int .i64 i ∧ Hid (Blk wr g1 (iA (sumT d on i)) 3) ∧ Hid (Blk wr g2 (iA (stkT d on i)) 3) ∧ Hid (Ext ws wr)) (fun t _ => l.length - (intOf t).toNat)
            case atStart => exact ⟨0, Nat.zero_le _, rfl, BT1.out, BT2.out, XC.out⟩
            case round =>
              clear BT1 BT2 XC
              obtain ⟨i, hi, rfl, BT1, BT2, XC⟩ := hrel
              by_cases hil : i < l.length
              · skip
                as_aux_lemma =>
                  obtain ⟨b1, o1, rfl, hc1⟩ := HA2.out.cells (by omega)
                  have hc0 := Lib.hid (hc1 i hil).1
                  have e0 := XC.out.cellSome (hc1 i hil).1
                  have e1 := XC.out.cellSome (hc1 i hil).2
                  have hin : i < d.n := by unfold LedD.n; rw [KP.out.acc]; exact hil
                  have hat : d.at' (i : Int) = l[i] := by
                    rw [at_nat hin]
                    simp only [KP.out.acc]
                  have hgd := HG.out i hin
                  have hq : (d.at' (i : Int)).good = ((gN d i : Nat) : Int) := by unfold gN; omega
                  have hq5 : gN d i < 5 := by unfold gN; omega
                  have hsT : stkT d on (i + 1) = if l[i].stock = true then (stkT d on i).set (gN d i) (gI (stkT d on i) (gN d i) + balU (i : Int) on d.ents) else stkT d on i := by
                    show (if (d.at' (i : Int)).stock = true then _ else _) = _
                    rw [hat]
                  have hmT : sumT d on (i + 1) = (sumT d on i).set (gN d i) (gI (sumT d on i) (gN d i) + balU (i : Int) on d.ents) := rfl
                  have hbe : balErr d (i : Int) on = 0 := by
                    have := ON.out
                    unfold balErr
                    rw [if_pos ⟨by omega, by omega⟩, if_pos this]
                  have hbv : balV d (i : Int) on = balU (i : Int) on d.ents := by unfold balV; rw [if_pos hbe]
                  have hbal := fun W (h : LSt W B lb d m) => Balance_any B lb d m (i : Int) on W h KP.out.ok
                  rw [hbe, hbv] at hbal
                  have hnn : l[i].stock = true → 0 ≤ balU (i : Int) on d.ents := fun hs => KP.out.nn.day KP.out.ok on i hin (by rw [hat]; exact hs)
                  have hbr := KP.out.ok.balU (i : Int) on d.ents.length
                  rw [List.take_length] at hbr
                  have hsm1 := gI_small (sumT_small KP.out.ok on i) (by omega) (gN d i)
                  have hsm2 := gI_small (stkT_small KP.out.ok on i) (by omega) (gN d i)
                  rw [hat] at hq
                  have l1 := sumT_len d on i
                  have l2 := stkT_len d on i
                  obtain ⟨q, hqe⟩ : ∃ q, q = gN d i := ⟨_, rfl⟩
                  obtain ⟨bl, hble⟩ : ∃ y, y = balU (i : Int) on d.ents := ⟨_, rfl⟩
                  obtain ⟨T1, hT1⟩ : ∃ y, y = sumT d on i := ⟨_, rfl⟩
                  obtain ⟨T2, hT2⟩ : ∃ y, y = stkT d on i := ⟨_, rfl⟩
                  obtain ⟨y, hy⟩ : ∃ y, y = l[i] := ⟨_, rfl⟩
                  rw [← hqe] at hq hq5 hsT hmT hsm1 hsm2
                  rw [← hble] at hsT hmT hbal hnn hbr
                  rw [← hT1] at hmT hsm1 BT1 l1
                  rw [← hT2] at hsT hsm2 BT2 l2
                  rw [← hy] at e0 e1 hq hsT hnn
                  obtain ⟨yg, ys⟩ := y
                  dsimp only at e0 e1 hq hsT hnn
                  rw [hq] at e0
                  obtain ⟨ov1, hov1⟩ : ∃ y, y = gI T1 q := ⟨_, rfl⟩
                  obtain ⟨ov2, hov2⟩ : ∃ y, y = gI T2 q := ⟨_, rfl⟩
                  rw [← hov1] at hmT hsm1
                  rw [← hov2] at hsT hsm2
                  have k1 : -300000000000000000 ≤ ov1 ∧ ov1 ≤ 300000000000000000 := by omega
                  have k2 : -300000000000000000 ≤ ov2 ∧ ov2 ≤ 300000000000000000 := by omega
                  obtain ⟨k1a, k1b⟩ := k1
                  obtain ⟨k2a, k2b⟩ := k2
                  obtain ⟨hbr1, hbr2⟩ := hbr
                  have m1 : (0:Int) ≤ (i:Int) := by omega
                  have m2 : (i:Int) < (l.length:Int) := by omega
                  have m3 : (0:Int) ≤ (q:Int) := by omega
                  have m4 : (q:Int) < 5 := by omega
                  have nb1 : b1 ≠ g1 := by
                    have h9 : b1 < ws.heap.size := World.block_lt_of_cell? ws _ hc0.out
                    have := G1.out
                    omega
                  have NB1 := Lib.hid nb1
                  clear nb1
                  have HBAL := Lib.hid hbal
                  have HST := Lib.hid hsT
                  have HMT := Lib.hid hmT
                  have OV1 := Lib.hid hov1
                  have OV2 := Lib.hid hov2
                  have L1 := Lib.hid l1
                  have L2 := Lib.hid l2
                  clear hbal hsT hmT hov1 hov2 l1 l2
                  clear hc1 hat hgd hqe hble hT1 hT2 hy hsm1 hsm2 hq hin hbe hbv
                  go_upto_region 15 with (
                    go_at_call 28
                    refine (HBAL.out _ (LS.out.ext XC.out)).mono ?_
                    rintro e w5 ⟨rfl, hx5⟩
                    replace e0 := hx5.cellSome e0
                    replace e1 := hx5.cellSome e1
                    replace BT1 := Lib.hid (BT1.out.ext hx5)
                    replace BT2 := Lib.hid (BT2.out.ext hx5)
                    replace XC := Lib.hid (XC.out.ext hx5)
                    clear hx5)
                  have c1 : w5.cell? ⟨g1, q, none⟩ = some (.int .i64 ov1) := by rw [BT1.out.cell, iA_get (by rw [L1.out]; exact hq5), OV1.out]
                  cases ys with
                  | false =>
                    go_upto_region 13 with (
                      (with_reducible refine wpList_setK (i := q) (v := .int .i64 (ov1 + bl)) rfl rfl BT1.out ?_ ?_ ?_ ?_ ?_ ?_ ?_
                       · rfl
                       · rfl
                       · rw [iA_size, L1.out]; exact hq5
                       · kernel_rfl
                       · rfl
                       · rfl
                       rintro w6 hb6 ho6
                       rw [iA_set] at hb6
                       have hb7 := BT2.out.only ho6 (fun e => N12.out e.symm)
                       have hx6 := XC.out.then_only ho6 (fun q e => by rw [e]; exact G1.out)
                       replace e0 := ho6.cell e0 (fun e => NB1.out e)
                       replace e1 := ho6.cell e1 (fun e => NB1.out e)
                       clear BT1 BT2 XC c1 ho6
                       have BT1 := Lib.hid hb6
                       have BT2 := Lib.hid hb7
                       have XC := Lib.hid hx6
                       clear hb6 hb7 hx6)
                      )
                    go_wp2
                    go_roundw
                    case rel => exact ⟨i + 1, by omega, by go_num, Lib.hid (by rw [HMT.out]; exact BT1.out), Lib.hid (by rw [HST.out, if_neg (by decide)]; exact BT2.out), XC⟩
                    case measure => simp [intOf]; omega
                  | true =>
                    have hnn2 := hnn rfl
                    clear hnn
                    go_upto_region 18 with (
                      (with_reducible refine wpList_setK (i := q) (v := .int .i64 (ov1 + bl)) rfl rfl BT1.out ?_ ?_ ?_ ?_ ?_ ?_ ?_
                       · rfl
                       · rfl
                       · rw [iA_size, L1.out]; exact hq5
                       · kernel_rfl
                       · rfl
                       · rfl
                       rintro w6 hb6 ho6
                       rw [iA_set] at hb6
                       have hb7 := BT2.out.only ho6 (fun e => N12.out e.symm)
                       have hx6 := XC.out.then_only ho6 (fun q e => by rw [e]; exact G1.out)
                       replace e0 := ho6.cell e0 (fun e => NB1.out e)
                       replace e1 := ho6.cell e1 (fun e => NB1.out e)
                       clear BT1 BT2 XC c1 ho6
                       have BT1 := Lib.hid hb6
                       have BT2 := Lib.hid hb7
                       have XC := Lib.hid hx6
                       clear hb6 hb7 hx6)
                      )
                    have c2 : w6.cell? ⟨g2, q, none⟩ = some (.int .i64 ov2) := by rw [BT2.out.cell, iA_get (by rw [L2.out]; exact hq5), OV2.out]
                    go_upto_region 13 with (
                      (with_reducible refine wpList_setK (i := q) (v := .int .i64 (ov2 + bl)) rfl rfl BT2.out ?_ ?_ ?_ ?_ ?_ ?_ ?_
                       · rfl
                       · rfl
                       · rw [iA_size, L2.out]; exact hq5
                       · kernel_rfl
                       · rfl
                       · rfl
                       rintro w7 hb8 ho8
                       rw [iA_set] at hb8
                       have hb9 := BT1.out.only ho8 (fun e => N12.out e)
                       have hx8 := XC.out.then_only ho8 (fun q e => by rw [e]; exact G2.out)
                       clear BT1 BT2 XC c2 ho8
                       have BT1 := Lib.hid hb9
                       have BT2 := Lib.hid hb8
                       have XC := Lib.hid hx8
                       clear hb9 hb8 hx8))
                    go_wp2
                    go_roundw
                    case rel => exact ⟨i + 1, by omega, by go_num, Lib.hid (by rw [HMT.out]; exact BT1.out), Lib.hid (by rw [HST.out, if_pos rfl]; exact BT2.out), XC⟩
                    case measure => simp [intOf]; omega
              · obtain rfl : i = l.length := by omega
                have hdn : d.n = l.length := by unfold LedD.n; rw [KP.out.acc]
                have hse : stkErr on = 0 := by unfold stkErr; rw [if_pos ON.out]
                have hsv : stoV d on = (stkT d on l.length).drop 1 := by
                  unfold stoV
                  rw [if_pos hse]
                  have h := stkT_sto HG.out on d.n (Nat.le_refl _)
                  rw [hdn] at h
                  unfold LedD.stkA
                  rw [hdn]
                  exact h
                have l2 := stkT_len d on l.length
                have l1 := sumT_len d on l.length
                have hz := fun g (h : g < 5) => sumT_zero KP.out.ok HG.out on g h
                rw [hdn] at hz
                obtain ⟨T2, hT2⟩ : ∃ y, y = stkT d on l.length := ⟨_, rfl⟩
                obtain ⟨T1, hT1⟩ : ∃ y, y = sumT d on l.length := ⟨_, rfl⟩
                rw [← hT2] at hsv BT2 l2
                rw [← hT1] at hz BT1 l1
                have hsto := fun W (h : LSt W B lb d m) => stocks2_any B lb d m on W h KP.out.ok HG.out
                have HSTO : Hid (∀ W, LSt W B lb d m → Calls Try.prog 32 #[.pointer (some ⟨lb, 0, none⟩), .int .i64 on] W fun e w' => ∃ a c, e = .returned (.tuple #[.slice a 4 c, .int .i64 0]) ∧ Ext W w' ∧ Ints w' (.slice a 4 c) (T2.drop 1)) := fun W h => (hsto W h).mono fun e w' ⟨v, h1, h2, h3⟩ => by
                  rw [hse] at h1
                  rw [hsv] at h3
                  obtain ⟨a, c, hv, h4⟩ := h3.form
                  have e4 : (T2.drop 1).length = 4 := by simp [l2]
                  rw [e4] at hv
                  subst hv
                  exact ⟨a, c, h1, h2, h3⟩
                have hdec : decide (T2.drop 1 = T2.drop 1) = true := decide_eq_true rfl
                have HZ := Lib.hid hz
                have L1 := Lib.hid l1
                have L2 := Lib.hid l2
                clear hz l1 l2
                clear hsto hsv hse hdn hT1 hT2 hlt hil
                go_upto_region 21 with (
                  go_at_call 32
                  refine (HSTO.out _ (LS.out.ext XC.out)).mono ?_
                  rintro e w8 ⟨a8, c8, rfl, hx8, hi8⟩
                  replace BT1 := Lib.hid (BT1.out.ext hx8)
                  replace BT2 := Lib.hid (BT2.out.ext hx8)
                  replace XC := Lib.hid (XC.out.ext hx8)
                  clear hx8
                  have I8 := Lib.hid hi8
                  clear hi8)
                go_upto_region 24 with (
                  go_at_call 18
                  refine (sameInts_any (T2.drop 1) (T2.drop 1) _ _ _ I8.out (BT2.out.ints1 L2.out)).mono ?_
                  rintro e w9 ⟨rfl, n9, hw9⟩
                  have hx9 : Ext w8 w9 := by rw [hw9]; exact Ext.of_drewN _ _
                  (try rw [hdec])
                  replace BT1 := Lib.hid (BT1.out.ext hx9)
                  replace XC := Lib.hid (XC.out.ext hx9)
                  clear I8 BT2 hw9 hx9)
                clear HSTO hdec
                have h19 := BT1.out.cell
                have hzc : ∀ g, g < 5 → w9.cell? ⟨g1, g, none⟩ = some (.int .i64 0) := fun g hg => by rw [h19, iA_get (by rw [L1.out]; exact hg), HZ.out g hg]
                have HZC := Lib.hid hzc
                clear h19 hzc HZ L1 L2
                go_loopw [21] (fun t wr => ∃ g : Nat, g ≤ 5 ∧ t = .int .i64 g ∧ wr = w9) (fun t _ => 5 - (intOf t).toNat)
                case atStart => exact ⟨0, by omega, rfl, rfl⟩
                case round =>
                  obtain ⟨g, hg, rfl, rfl⟩ := hrel
                  by_cases hg5 : g < 5
                  · have c1 := HZC.out g hg5
                    have m1 : (0:Int) ≤ (g:Int) := by omega
                    have m2 : (g:Int) < 5 := by omega
                    go_wp2
                    go_roundw
                    case rel => exact ⟨g + 1, by omega, by simp⟩
                    case measure => simp [intOf]; omega
                  · obtain rfl : g = 5 := by omega
                    have hxr := HX.out.tr XC.out
                    clear hg5 HX XC
                    have HX := Lib.hid hxr
                    clear hxr
                    go_wp2
                    go_roundw
                    case rel => exact ⟨j + 1, by omega, by go_num, HX⟩
                    case measure => simp [intOf]; omega
        · obtain rfl : j = 2 := by omega
          have hx := X.out.tr HX.out
          clear X HX
          have X := Lib.hid hx
          clear hx
          go_wp2_with (
            go_at_call 14
            refine (awake_any _).mono ?_
            rintro e w6 ⟨rfl, hx6⟩
            replace X := Lib.hid (X.out.ext hx6)
            clear hx6)
          go_ret
          exact HP.out _ _ ⟨rfl, X.out⟩
    · have i2 : (60 : Int) < (ds.length : Int) := by omega
      clear hn
      obtain ⟨hl1, hl2⟩ := hl40
      have HC := Lib.hid hc
      clear hc
      go_enter Try.func7, Try.ntmps7
      go_wp2_with (first
        | (go_at_call 25
           refine (accounts_big l _ _ HA.out HB.out).mono ?_
           rintro e w1 ⟨v1, rfl, hx1, ho1⟩
           have h1 : AccIn w1 v1 l := StIn.of_owns accC_len ho1 hal
           clear ho1
           obtain ⟨a1, c1, rfl, _⟩ := h1.form
           have X := Lib.hid hx1
           have I1 := Lib.hid h1
           clear hx1 h1)
        | (go_at_call 26
           refine (check_any l _ _ I1.out).mono ?_
           rintro e w2 ⟨rfl, hx2⟩
           rw [HC.out]
           replace X := Lib.hid (X.out.ext hx2)
           clear hx2)
        | (go_at_call 14
           refine (awake_any _).mono ?_
           rintro e w6 ⟨rfl, hx6⟩
           replace X := Lib.hid (X.out.ext hx6)
           clear hx6))
      go_ret
      exact HP.out _ _ ⟨rfl, X.out⟩
  · obtain ⟨er, her⟩ : ∃ er, er = checkE l := ⟨_, rfl⟩
    have hne : (er != 0) = true := by rw [her]; simpa using hc
    have HB := Lib.hid hb
    have HER := Lib.hid her
    clear hc her
    go_enter Try.func7, Try.ntmps7
    go_wp2_with (first
      | (go_at_call 25
         refine (accounts_big l _ _ HA.out HB.out).mono ?_
         rintro e w1 ⟨v1, rfl, hx1, ho1⟩
         have h1 : AccIn w1 v1 l := StIn.of_owns accC_len ho1 hal
         clear ho1
         obtain ⟨a1, c1, rfl, _⟩ := h1.form
         have X := Lib.hid hx1
         have I1 := Lib.hid h1
         clear hx1 h1)
      | (go_at_call 26
         refine (check_any l _ _ I1.out).mono ?_
         rintro e w2 ⟨rfl, hx2⟩
         rw [← HER.out]
         replace X := Lib.hid (X.out.ext hx2)
         clear hx2)
      | (go_at_call 14
         refine (awake_any _).mono ?_
         rintro e w6 ⟨rfl, hx6⟩
         replace X := Lib.hid (X.out.ext hx6)
         clear hx6))
    go_ret
    exact HP.out _ _ ⟨rfl, X.out⟩
end Go.Proofs.Ytekplfbfkfiabaa
