/- Stocks of the reference. -/
import Derived.Test.YtekplfbfkfiabaaRfBal
import Derived.Test.YtekplfbfkfiabaaBkSto
namespace Go.Proofs.Ytekplfbfkfiabaa
open Go.RowKit Go.Shelf
set_option linter.unusedVariables false
set_option linter.unusedSimpArgs false
attribute [local go_sem] Oper.semAt_some

set_option maxRecDepth 100000 in
set_option maxHeartbeats 4000000 in
theorem rStocks_any (d : LedD) (va ve : Value) (day : Int) (w : World) (ha : AccIn w va d.acc) (hs : SigIn w ve d.ents) (ok : LedOk d) (hgood : ∀ i : Nat, i < d.n → 1 ≤ (d.at' i).good ∧ (d.at' i).good ≤ 4) :
    Calls Try.prog 80 #[rLed d va ve, .int .i64 day] w (StoPost w d day) := by
  have hp : ∀ e w', StoPost w d day e w' → StoPost w d day e w' := fun _ _ h => h
  have hn := ok.n1
  have hnd : d.n = d.acc.length := rfl
  have hrb := fun (i : Int) W (h : SigIn W ve d.ents) => rBalance_any d va ve i day W h ok
  obtain ⟨a, c, rfl, HA⟩ := ha.form
  obtain ⟨a2, c2, rfl, HS⟩ := hs.form
  clear ha hs
  unfold rLed at hrb ⊢
  by_cases h3 : day < 0
  · have HE := Lib.hid (show stkErr day = 6 by unfold stkErr; rw [if_neg (by omega)])
    have HV := Lib.hid (show stoV d day = [] by unfold stoV; rw [if_neg (by rw [HE.out]; decide)])
    have HP := Lib.hid hp
    clear hp
    clear ok hrb hn hnd hgood
    go_enter Try.func80, Try.ntmps80
    go_wp2_with (
      (with_reducible refine wpList_boxA (t := 81) rfl rfl rfl ?_
       rintro eb w1 hb1 hx1 hl1
       have HX := Lib.hid hx1
       have EB := Lib.hid hb1
       have LE := Lib.hid hl1
       clear hx1 hb1 hl1
       )
      )
    go_ret2
    exact HP.out _ _ ⟨_, by rw [HE.out]; rfl, HX.out, by rw [HV.out]; exact Sl.nil _⟩
  · have h3' : (0:Int) ≤ day := by omega
    by_cases h4 : 100000 < day
    · have HE := Lib.hid (show stkErr day = 6 by unfold stkErr; rw [if_neg (by omega)])
      have HV := Lib.hid (show stoV d day = [] by unfold stoV; rw [if_neg (by rw [HE.out]; decide)])
      have HP := Lib.hid hp
      clear hp
      clear ok hrb hn hnd hgood h3
      go_enter Try.func80, Try.ntmps80
      go_wp2_with (
        (with_reducible refine wpList_boxA (t := 81) rfl rfl rfl ?_
         rintro eb w1 hb1 hx1 hl1
         have HX := Lib.hid hx1
         have EB := Lib.hid hb1
         have LE := Lib.hid hl1
         clear hx1 hb1 hl1
         )
        )
      go_ret2
      exact HP.out _ _ ⟨_, by rw [HE.out]; rfl, HX.out, by rw [HV.out]; exact Sl.nil _⟩
    · have h4' : day ≤ 100000 := by omega
      have HE := Lib.hid (show stkErr day = 0 by unfold stkErr; rw [if_pos (by omega)])
      have HV := Lib.hid (show stoV d day = stoS d day (stkN d.acc d.acc.length) [0, 0, 0, 0] by unfold stoV; rw [if_pos HE.out]; rfl)
      have HP := Lib.hid hp
      have HRB := Lib.hid hrb
      have HOK := Lib.hid ok
      have HG := Lib.hid hgood
      have HND := Lib.hid hnd
      clear hp hrb ok hgood hnd
      clear h3 h4
      go_enter Try.func80, Try.ntmps80
      go_upto_region 4 with (
        (with_reducible refine wpList_boxA (t := 81) rfl rfl rfl ?_
         rintro eb w1 hb1 hx1 hl1
         have HX := Lib.hid hx1
         have EB := Lib.hid hb1
         have LE := Lib.hid hl1
         clear hx1 hb1 hl1
         )
        )
      have hnb := newB w1 #[.int .i64 0, .int .i64 0, .int .i64 0, .int .i64 0] 3
      have hob : Blk (w1.alloc (.cells #[.int .i64 0, .int .i64 0, .int .i64 0, .int .i64 0] 3)) w1.heap.size (iA (stoS d day (stkN d.acc 0) [0, 0, 0, 0])) 3 := hnb.1
      have hxn := hnb.2.1
      have hne : eb ≠ w1.heap.size := by have := EB.out.lt; omega
      clear hnb
      generalize w1.alloc (.cells #[.int .i64 0, .int .i64 0, .int .i64 0, .int .i64 0] 3) = w2 at *
      obtain ⟨g, hg⟩ : ∃ n, w1.heap.size = n := ⟨_, rfl⟩
      have hlg : w.heap.size ≤ g := by rw [← hg]; exact HX.out.size
      rw [hg] at hob hne ⊢
      replace HX := Lib.hid (HX.out.ext hxn)
      replace EB := Lib.hid (EB.out.ext hxn)
      have OB := Lib.hid hob
      have NEG := Lib.hid hne
      have LG := Lib.hid hlg
      clear hob hne hlg
      clear hg hxn
      go_upto_region 5 with (fail)
      go_loopw [7] (fun t wr => ∃ k : Nat, k ≤ d.acc.length ∧ t = .int .i64 k ∧ Hid (Blk wr g (iA (stoS d day (stkN d.acc k) [0, 0, 0, 0])) 3) ∧ Hid (Small ((k : Int) * 5000000000000000) (stoS d day (stkN d.acc k) [0, 0, 0, 0])) ∧ Hid (Blk wr eb #[.int .u64 d.key, .slice a d.acc.length c, .slice a2 d.ents.length c2, .int .i64 d.closed] 81) ∧ Hid (Ext w wr)) (fun t _ => d.acc.length - (intOf t).toNat)
      case atStart => exact ⟨0, Nat.zero_le _, rfl, OB.out, Lib.hid (by intro x hx; have hx2 : x ∈ [(0:Int), 0, 0, 0] := hx; simp at hx2; subst hx2; omega), EB.out, HX.out⟩
      case round =>
        clear OB EB HX
        obtain ⟨k, hk, rfl, HB, HM, EB, HX⟩ := hrel
        have b1 := EB.out.cell 1
        by_cases hlt : k < d.acc.length
        · obtain ⟨ba, oa, rfl, hc⟩ := HA.out.cells (by omega)
          have e0 := HX.out.cellSome (hc k hlt).1
          have e1 := HX.out.cellSome (hc k hlt).2
          have hin : k < d.n := by rw [HND.out]; exact hlt
          have hgd := HG.out k hin
          have hat : d.at' (k : Int) = d.acc[k]'hlt := at_nat hin
          have hss := stkN_succ d.acc k
          have hgD : d.acc.getD k default = d.acc[k]'hlt := by rw [List.getD_eq_getElem?_getD, List.getElem?_eq_getElem hlt]; rfl
          rw [hgD] at hss
          have hgx : (d.at' (k : Int)).good = ((gIdx d k : Nat) : Int) + 1 := by unfold gIdx; omega
          have hg4 : gIdx d k < 4 := by unfold gIdx; omega
          have hst := stoS_snoc d day (stkN d.acc k) k [0, 0, 0, 0]
          rw [hat] at hgx
          obtain ⟨x, hx⟩ : ∃ x, x = d.acc[k]'hlt := ⟨_, rfl⟩
          rw [← hx] at e0 e1 hss hgx
          obtain ⟨yg, ys⟩ := x
          dsimp only at e0 e1 hss hgx
          obtain ⟨gi, hgi⟩ : ∃ gi, gi = gIdx d k := ⟨_, rfl⟩
          rw [← hgi] at hgx hg4 hst
          rw [hgx] at e0
          have hkb : (k:Int) ≤ 40 := by have := hn.2; omega
          have j1 : (0:Int) ≤ (k:Int) := by omega
          have j2 : (k:Int) < (d.acc.length:Int) := by omega
          have j5 : (0:Int) ≤ (gi:Int) := by omega
          have j6 : (gi:Int) < 4 := by omega
          have j7 : (gi:Int) + 1 - 1 = (gi:Int) := by omega
          have j8 : IntKind.i64.wrap (gi:Int) = (gi:Int) := i64_eq _ ⟨by omega, by omega⟩
          have HSS := Lib.hid hss
          clear hss
          clear hc hx hgi hgx hgD hat hgd hin
          cases ys with
          | false =>
            have hss := HSS.out
            have e9 : stkN d.acc (k + 1) = stkN d.acc k := by rw [hss]; simp
            have HS9 := Lib.hid e9
            clear hst HSS hss e9
            go_wp2
            go_roundw
            case rel => exact ⟨k + 1, by omega, by go_num, Lib.hid (by rw [HS9.out]; exact HB.out), Lib.hid (by rw [HS9.out]; exact HM.out.mono (by push_cast; omega)), EB, HX⟩
            case measure => simp [intOf]; omega
          | true =>
            have hss := HSS.out
            have e9 : stkN d.acc (k + 1) = stkN d.acc k ++ [k] := by rw [hss]; simp
            rw [← e9] at hst
            obtain ⟨ov, hov⟩ : ∃ v, v = gI (stoS d day (stkN d.acc k) [0, 0, 0, 0]) gi := ⟨_, rfl⟩
            have hsl : (stoS d day (stkN d.acc k) [0, 0, 0, 0]).length = 4 := by rw [stoS_len]; rfl
            have co : wr.cell? ⟨g, gi, none⟩ = some (.int .i64 ov) := by rw [HB.out.cell, iA_get (by rw [hsl]; exact hg4), hov]
            have hor := gI_small HM.out (by omega) gi
            have hbr := HOK.out.balU (k : Int) day d.ents.length
            rw [List.take_length] at hbr
            obtain ⟨bl, hbl⟩ : ∃ b, b = balU (k : Int) day d.ents := ⟨_, rfl⟩
            have hba := HRB.out (k : Int)
            rw [← hbl] at hst hbr hba
            rw [← hov] at hst hor
            have hsr := HS.out.ext HX.out
            have b0 := EB.out.cell 0
            have b2 := EB.out.cell 2
            have b3 := EB.out.cell 3
            have HST := Lib.hid hst
            have HBA := Lib.hid hba
            have HSL := Lib.hid hsl
            have HOR := Lib.hid hor
            have HBR := Lib.hid hbr
            have HSR := Lib.hid hsr
            clear hst hba hsl hor hbr hsr
            clear HSS hss e9 hov hbl
            go_upto_region 9 with (fail)
            have hxd : Ext wr wr.drew := (Below.refl _ wr).drew
            refine wp_region_K (fun W => W.cell? ⟨g, gi, none⟩ = some (.int .i64 ov) ∧ W.cell? ⟨eb, 0, none⟩ = some (.int .u64 d.key) ∧ W.cell? ⟨eb, 1, none⟩ = some (.slice (some ⟨ba, oa, none⟩) d.acc.length c) ∧ W.cell? ⟨eb, 2, none⟩ = some (.slice a2 d.ents.length c2) ∧ W.cell? ⟨eb, 3, none⟩ = some (.int .i64 d.closed)) 12 (by kernel_rfl) ⟨hxd.cellSome co, hxd.cellSome b0, hxd.cellSome b1, hxd.cellSome b2, hxd.cellSome b3⟩ (fun hHeld => ?_)
            have XC := Lib.hid hxd
            clear hxd
            generalize wr.drew = wy at *
            refine wpAnyK_takeL (i := 0) (v := ?_) rfl (by kernel_rfl) (by kernel_rfl) (by kernel_rfl) (by kernel_rfl) (fun _ _ _ h => h) (Or.inl ⟨by rfl, ?_⟩) hHeld ?_
            rotate_left
            · intro w hSw; (try dsimp only at hSw); go_simp; (try with_reducible rfl)
            try simp only [Act.put, List.setIfInBounds_toArray, List.set_cons_zero, List.set_cons_succ]
            refine wpAnyK_takeL (i := 1) (v := ?_) rfl (by kernel_rfl) (by kernel_rfl) (by kernel_rfl) (by kernel_rfl) (fun _ _ _ h => h) (Or.inl ⟨by rfl, ?_⟩) hHeld ?_
            rotate_left
            · intro w hSw; (try dsimp only at hSw); go_simp; (try with_reducible rfl)
            try simp only [Act.put, List.setIfInBounds_toArray, List.set_cons_zero, List.set_cons_succ]
            refine wpAnyK_takeL (i := 2) (v := ?_) rfl (by kernel_rfl) (by kernel_rfl) (by kernel_rfl) (by kernel_rfl) (fun _ _ _ h => h) (Or.inl ⟨by rfl, ?_⟩) hHeld ?_
            rotate_left
            · intro w hSw; (try dsimp only at hSw); go_simp; (try with_reducible rfl)
            try simp only [Act.put, List.setIfInBounds_toArray, List.set_cons_zero, List.set_cons_succ]
            refine wpAnyK_takeL (i := 3) (v := ?_) rfl (by kernel_rfl) (by kernel_rfl) (by kernel_rfl) (by kernel_rfl) (fun _ _ _ h => h) (Or.inl ⟨by rfl, ?_⟩) hHeld ?_
            rotate_left
            · intro w hSw; (try dsimp only at hSw); go_simp; (try with_reducible rfl)
            try simp only [Act.put, List.setIfInBounds_toArray, List.set_cons_zero, List.set_cons_succ]
            refine wpAnyK_takeL (i := 4) (v := ?_) rfl (by kernel_rfl) (by kernel_rfl) (by kernel_rfl) (by kernel_rfl) (fun _ _ _ h => h) (Or.inl ⟨by rfl, ?_⟩) hHeld ?_
            rotate_left
            · intro w hSw; (try dsimp only at hSw); go_simp; (try with_reducible rfl)
            try simp only [Act.put, List.setIfInBounds_toArray, List.set_cons_zero, List.set_cons_succ]
            refine wpAnyK_takeL (i := 5) (v := ?_) rfl (by kernel_rfl) (by kernel_rfl) (by kernel_rfl) (by kernel_rfl) (fun _ _ _ h => h) (Or.inl ⟨by rfl, ?_⟩) hHeld ?_
            rotate_left
            · intro w hSw; (try dsimp only at hSw); go_simp; (try with_reducible rfl)
            try simp only [Act.put, List.setIfInBounds_toArray, List.set_cons_zero, List.set_cons_succ]
            refine wpAnyK_takeL (i := 6) (v := ?_) rfl (by kernel_rfl) (by kernel_rfl) (by kernel_rfl) (by kernel_rfl) (fun _ _ _ h => h) (Or.inl ⟨by rfl, ?_⟩) hHeld ?_
            rotate_left
            · intro w hSw; (try dsimp only at hSw); go_simp; (try with_reducible rfl)
            try simp only [Act.put, List.setIfInBounds_toArray, List.set_cons_zero, List.set_cons_succ]
            refine wpAnyK_takeL (i := 7) (v := ?_) rfl (by kernel_rfl) (by kernel_rfl) (by kernel_rfl) (by kernel_rfl) (fun _ _ _ h => h) (Or.inl ⟨by rfl, ?_⟩) hHeld ?_
            rotate_left
            · intro w hSw; (try dsimp only at hSw); go_simp; (try with_reducible rfl)
            try simp only [Act.put, List.setIfInBounds_toArray, List.set_cons_zero, List.set_cons_succ]
            refine wpAnyK_takeL (i := 8) (v := ?_) rfl (by kernel_rfl) (by kernel_rfl) (by kernel_rfl) (by kernel_rfl) (fun _ _ _ h => h) (Or.inl ⟨by rfl, ?_⟩) hHeld ?_
            rotate_left
            · intro w hSw; (try dsimp only at hSw); go_simp; (try with_reducible rfl)
            try simp only [Act.put, List.setIfInBounds_toArray, List.set_cons_zero, List.set_cons_succ]
            refine wpAnyK_ready (rs := [9]) (by kernel_rfl) (by simp) ?_
            refine AllReadyK.consL (i := 9) rfl (fun K hK => ?_) ?_
            · refine step_call (vs := #[.agg #[.int .u64 d.key, .slice (some ⟨ba, oa, none⟩) d.acc.length c, .slice a2 d.ents.length c2, .int .i64 d.closed], .int .i64 (k : Int), .int .i64 day]) rfl rfl rfl Try.func78 (by kernel_rfl) (by kernel_rfl) (HBA.out _ (HSR.out.ext XC.out)) ?_
              rintro e wn ⟨rfl, hx⟩
              refine ⟨_, rfl, ?_⟩
              replace XC := Lib.hid (XC.out.ext hx)
              clear hx
              refine hK.out _ _ (fun _ => ⟨XC.out.cellSome co, XC.out.cellSome b0, XC.out.cellSome b1, XC.out.cellSome b2, XC.out.cellSome b3⟩) (fun hHeld2 => ?_)
              clear hK K
              try clear hHeld
              have hHeld := hHeld2 (by decide)
              clear hHeld2
              try simp only [Act.put, List.setIfInBounds_toArray, List.set_cons_zero, List.set_cons_succ]
              refine wpAnyK_takeL (i := 10) (v := ?_) rfl (by kernel_rfl) (by kernel_rfl) (by kernel_rfl) (by kernel_rfl) (fun _ _ _ h => h) (Or.inl ⟨by rfl, ?_⟩) hHeld ?_
              rotate_left
              · intro w hSw; (try dsimp only at hSw); go_simp; (try with_reducible rfl)
              try simp only [Act.put, List.setIfInBounds_toArray, List.set_cons_zero, List.set_cons_succ]
              refine wpAnyK_takeL (i := 11) (v := ?_) rfl (by kernel_rfl) (by kernel_rfl) (by kernel_rfl) (by kernel_rfl) (fun _ _ _ h => h) (Or.inl ⟨by rfl, ?_⟩) hHeld ?_
              rotate_left
              · intro w hSw; (try dsimp only at hSw); go_simp; (try with_reducible rfl)
              try simp only [Act.put, List.setIfInBounds_toArray, List.set_cons_zero, List.set_cons_succ]
              clear hHeld
              refine wpAnyK_ready (rs := [12]) (by kernel_rfl) (by simp) ?_
              refine AllReadyK.consL (i := 12) rfl (fun K hK => ?_) ?_
              · refine step_setK (i := gi) (v := .int .i64 (IntKind.i64.wrap (ov + bl))) rfl rfl (HB.out.ext XC.out) rfl rfl (by rw [iA_size, HSL.out]; exact hg4) (by kernel_rfl) rfl (by simp [Value.oneCell']) ?_
                intro wm hw hb ho
                clear hw
                have h1 := HOR.out
                have h2 := HBR.out
                rw [i64_eq (ov + bl) (by omega), iA_set] at hb
                have hsm : Small (((k + 1 : Nat) : Int) * 5000000000000000) (stoS d day (stkN d.acc (k + 1)) [0, 0, 0, 0]) := by
                  rw [HST.out]
                  exact (HM.out.mono (by push_cast; omega)).set (by push_cast; constructor <;> omega) gi
                have heb := (EB.out.ext XC.out).only ho NEG.out
                have hx2 := (HX.out.tr XC.out).then_only ho (fun q e => by rw [e]; exact LG.out)
                clear XC h1 h2 ho
                have HSM := Lib.hid hsm
                have EB2 := Lib.hid heb
                have X2 := Lib.hid hx2
                clear hsm heb hx2
                refine hK.out _ _ (fun h => absurd h (by decide)) (fun hHeld2 => ?_)
                clear hK K hHeld2
                try clear hHeld
                try simp only [Act.put, List.setIfInBounds_toArray, List.set_cons_zero, List.set_cons_succ]
                refine wpAnyK_done (by kernel_rfl) ?_ _
                go_wp2
                go_roundw
                case rel => exact ⟨k + 1, by omega, by go_num, Lib.hid (by rw [HST.out]; exact hb), HSM, EB2, X2⟩
                case measure => simp [intOf]; omega
              · exact AllReadyK.nil
            · exact AllReadyK.nil
        · obtain rfl : k = d.acc.length := by omega
          have HBI := Lib.hid (HB.out.ints (n := 4) (c := 4) (by rw [stoS_len]; rfl) (by omega))
          clear hlt
          go_wp2
          go_ret2
          exact HP.out _ _ ⟨_, by rw [HE.out]; rfl, HX.out, by rw [HV.out]; exact HBI.out⟩
end Go.Proofs.Ytekplfbfkfiabaa
