/- The reference's Audit. -/
import Derived.Test.YtekplfbfkfiabaaBkRefP
import Derived.Test.YtekplfbfkfiabaaRefK
import Derived.Test.YtekplfbfkfiabaaBkAudit
namespace Go.Proofs.Ytekplfbfkfiabaa
open Go.RowKit
set_option linter.unusedVariables false
set_option linter.unusedSimpArgs false

theorem RPostPost.bad {w w' : World} {d : LedD} {va ve : Value} {x : EntD} {e : Ending} (h : RPostPost w d va ve x e w') (hp : postErr d x ≠ 0) : e = .returned (.tuple #[rLed d va ve, .int .i64 (postErr d x)]) ∧ Ext w w' := by
  rcases h with ⟨_, h1, h2⟩ | ⟨h1, _⟩
  · exact ⟨h1, h2⟩
  · exact absurd h1 hp
theorem RPostPost.good {w w' : World} {d : LedD} {va ve : Value} {x : EntD} {e : Ending} (h : RPostPost w d va ve x e w') (hp : postErr d x = 0) : ∃ v', e = .returned (.tuple #[rLed (postD d x) va v', .int .i64 0]) ∧ SigIn w' v' (postD d x).ents ∧ (∀ b, v'.ownBlock = some b → w.heap.size ≤ b) ∧ Ext w w' := by
  rcases h with ⟨h1, _⟩ | ⟨_, h2⟩
  · exact absurd hp h1
  · exact h2

set_option maxRecDepth 100000 in
set_option maxHeartbeats 2000000 in
theorem rNew_bad (key : Int) (l : List AccD) (va : Value) (w : World) (ha : AccIn w va l) (h0 : checkE l ≠ 0) :
    Calls Try.prog 41 #[.int .u64 key, va] w fun e w' => e = .returned (.tuple #[.agg #[.int .u64 0, .slice none 0 0, .slice none 0 0, .int .i64 0], .int .i64 (checkE l)]) ∧ Ext w w' := by
  obtain ⟨a, c, rfl, HS⟩ := ha.form
  have HC := Lib.hid fun w1 (k : Ext w w1) => rCheck_any l _ w1 (ha.ext k)
  obtain ⟨er, her⟩ : ∃ er, er = checkE l := ⟨_, rfl⟩
  rw [← her] at h0
  have hd2 : (er != 0) = true := by simpa using h0
  rw [← her]
  have HER := Lib.hid her
  clear ha h0 her
  go_enter Try.func41, Try.ntmps41
  go_wp2_with (first
    | (with_reducible refine wpList_allocA (t := 81) rfl rfl Try.zeroValue81 ?_
       rintro pb w3 hb3 hx3 hl3
       have PB := Lib.hid hb3
       have X := Lib.hid hx3
       have LP := Lib.hid hl3
       clear hb3 hx3 hl3)
    | (go_at_call 42
       refine (HC.out _ X.out).mono ?_
       rintro e w4 ⟨rfl, nn, hw4⟩
       rw [← HER.out]
       have hx4 : Ext w3 w4 := by rw [hw4]; exact Ext.of_drewN _ _
       clear hw4
       replace PB := Lib.hid (PB.out.ext hx4)
       replace X := Lib.hid (X.out.ext hx4)
       clear hx4)
    | (with_reducible refine wpList_storeK (cells := #[.int .u64 0, .slice none 0 0, .slice none 0 0, .int .i64 0]) rfl rfl PB.out ?_ ?_ ?_ ?_ ?_ ?_
       · rfl
       · rfl
       · kernel_rfl
       · rfl
       · simp [Value.oneCell']
       rintro w5 hb5 ho5
       have hx5 := X.out.then_only ho5 (fun k (e : k = pb) => by rw [e]; exact LP.out)
       have k0 := hb5.cell
       clear X PB
       have X := Lib.hid hx5
       clear hx5
       clear hb5 ho5))
  refine bodyPost_ret (v := .tuple #[.agg #[.int .u64 0, .slice none 0 0, .slice none 0 0, .int .i64 0], .int .i64 er]) (by simp [results, Try.results41, go_sem, k0]) rfl ⟨rfl, X.out⟩

set_option maxRecDepth 100000 in
set_option maxHeartbeats 4000000 in
theorem rAudit_any (key : Int) (l : List AccD) (es : List SigD) (va ve : Value) (w : World) (ha : AccIn w va l) (hs : SigIn w ve es) (hk : U64 key) (hf : ∀ x ∈ es, x.e.fits) :
    Calls Try.prog 35 #[.int .u64 key, va, ve] w fun e w' => e = .returned (.tuple #[.int .i64 (auditR key l es).1, .int .i64 (auditR key l es).2]) ∧ Ext w w' := by
  obtain ⟨ar, har⟩ : ∃ r, r = auditR key l es := ⟨_, rfl⟩
  rw [← har]
  have hel := hs.len
  obtain ⟨a, c, rfl, HS⟩ := hs.form
  obtain ⟨aa, ca, rfl, HA0⟩ := ha.form
  have HAR := Lib.hid har
  have HF := Lib.hid hf
  clear har hf
  by_cases hce : checkE l = 0
  · have hN := rNew_any key l _ w ha hce
    unfold rLed at hN
    have HN := Lib.hid hN
    clear hN
    clear ha hs
    by_cases hlen : 5000 < es.length
    · have hr : ar = (0, 2) := by rw [HAR.out]; unfold auditR; rw [if_neg (fun h => h hce), if_pos hlen]
      have HR := Lib.hid hr
      clear hr HS hce
      go_enter Try.func35, Try.ntmps35
      go_wp2_with (first
        | (go_at_call 41
           refine HN.out.mono ?_
           rintro e w1 ⟨rfl, hx1⟩
           have X := Lib.hid hx1
           clear hx1)
        | (with_reducible refine wpList_allocA (t := 81) rfl rfl Try.zeroValue81 ?_
           rintro lb w2 hb2 hx2 hl2
           have ll := Nat.le_trans X.out.size hl2
           replace X := Lib.hid (X.out.ext hx2)
           have LB := Lib.hid hb2
           have LL := Lib.hid ll
           clear hb2 ll
           clear hl2 hx2)
        | (with_reducible refine wpList_storeK (cells := #[.int .u64 key, .slice aa l.length ca, .slice none 0 0, .int .i64 (-1)]) rfl rfl LB.out ?_ ?_ ?_ ?_ ?_ ?_
           · rfl
           · rfl
           · kernel_rfl
           · rfl
           · simp [Value.oneCell']
           rintro w3 hb3 ho3
           have hx3 := X.out.then_only ho3 (fun k (e : k = lb) => by rw [e]; exact LL.out)
           clear X LB
           have X := Lib.hid hx3
           have LB := Lib.hid hb3
           clear hx3 hb3
           clear ho3))
      go_ret2
      exact ⟨by rw [HR.out]; rfl, X.out⟩
    · have hr : ar = auditF (newD key l) es 0 := by rw [HAR.out]; unfold auditR; rw [if_neg (fun h => h hce), if_neg hlen]
      have HR := Lib.hid hr
      have hle : es.length ≤ 5000 := by omega
      have HOK := Lib.hid (LedOk.new hk hce)
      clear hr hlen
      go_enter Try.func35, Try.ntmps35
      go_upto_region 2 with (first
        | (go_at_call 41
           refine HN.out.mono ?_
           rintro e w1 ⟨rfl, hx1⟩
           have X := Lib.hid hx1
           clear hx1)
        | (with_reducible refine wpList_allocA (t := 81) rfl rfl Try.zeroValue81 ?_
           rintro lb w2 hb2 hx2 hl2
           have ll := Nat.le_trans X.out.size hl2
           replace X := Lib.hid (X.out.ext hx2)
           have LB := Lib.hid hb2
           have LL := Lib.hid ll
           clear hb2 ll
           clear hl2 hx2)
        | (with_reducible refine wpList_storeK (cells := #[.int .u64 key, .slice aa l.length ca, .slice none 0 0, .int .i64 (-1)]) rfl rfl LB.out ?_ ?_ ?_ ?_ ?_ ?_
           · rfl
           · rfl
           · kernel_rfl
           · rfl
           · simp [Value.oneCell']
           rintro w3 hb3 ho3
           have hx3 := X.out.then_only ho3 (fun k (e : k = lb) => by rw [e]; exact LL.out)
           clear X LB
           have X := Lib.hid hx3
           have LB := Lib.hid hb3
           clear hx3 hb3
           clear ho3))
      go_wp2
      go_loopw [10] (fun t wr => ∃ k : Nat, k ≤ es.length ∧ t = .int .i64 k ∧ ∃ d v, Hid (Blk wr lb #[.int .u64 d.key, .slice aa l.length ca, v, .int .i64 d.closed] 81) ∧ Hid (d.acc = l) ∧ Hid (SigIn wr v d.ents) ∧ Hid (LedOk d) ∧ Hid (d.ents.length = k) ∧ Hid (ar = auditF d (es.drop k) k) ∧ Hid (Ext w wr)) (fun t _ => es.length - (intOf t).toNat)
      case atStart => exact ⟨0, Nat.zero_le _, rfl, newD key l, _, LB.out, rfl, StIn.nil _, HOK.out, rfl, HR.out, X.out⟩
      case round =>
        obtain ⟨k, hk, rfl, d, v, HL, HDA, HSV, HO, HK, HA, HX⟩ := hrel
        clear LB X HR HOK
        obtain ⟨av, cv, rfl, _⟩ := HSV.out.form
        by_cases hlt : k < es.length
        · obtain ⟨b, o, rfl, hc⟩ := HS.out.cells (by omega)
          have hxr := HX.out
          have HCK : Hid (∀ wX, Ext w wX → (∀ j, j < 5 → wX.cell? ⟨b, o + k * 5 + j, none⟩ = (sigC es[k])[j]?)) := fun wX hw j hj => by
            have h1 := hc k hlt
            rcases (show j = 0 ∨ j = 1 ∨ j = 2 ∨ j = 3 ∨ j = 4 by omega) with rfl | rfl | rfl | rfl | rfl
            · exact hw.cellSome h1.1
            · exact hw.cellSome h1.2.1
            · exact hw.cellSome h1.2.2.1
            · exact hw.cellSome h1.2.2.2.1
            · exact hw.cellSome h1.2.2.2.2
          have had := HA.out
          rw [auditF_drop d es k hlt] at had
          have hft := HF.out es[k] (List.getElem_mem hlt)
          obtain ⟨x, hx⟩ : ∃ x, x = es[k] := ⟨_, rfl⟩
          rw [← hx] at had hft HCK
          clear hx hc hxr
          have hacc : ∀ w2, Ext w w2 → AccIn w2 (.slice aa l.length ca) d.acc := fun w2 h2 => by rw [HDA.out]; exact HA0.out.ext h2
          have hpost := fun w2 (h2 : Ext w w2) (hs2 : SigIn w2 (.slice av d.ents.length cv) d.ents) => rPost_any d (.slice aa l.length ca) (.slice av d.ents.length cv) x.e w2 (hacc w2 h2) hs2 HO.out hft
          obtain ⟨⟨xf, xt, xa, xd⟩, xs⟩ := x
          dsimp only at had hft hpost
          unfold entV rLed at hpost
          dsimp only at hpost
          have j1 : (0:Int) ≤ (k:Int) := by omega
          have j2 : (k:Int) < (es.length:Int) := by omega
          have HPO := Lib.hid hpost
          have HAD := Lib.hid had
          clear hpost had
          clear hft hacc
          go_upto_region 9 with (fail)
          have hxd : Ext wr wr.drew := (Below.refl _ wr).drew
          have HC2 : Hid (∀ wX, Ext w wX → wX.cell? ⟨b, o + k * 5, none⟩ = some (.int .i64 xf) ∧ wX.cell? ⟨b, o + k * 5 + 1, none⟩ = some (.int .i64 xt) ∧ wX.cell? ⟨b, o + k * 5 + 2, none⟩ = some (.int .i64 xa) ∧ wX.cell? ⟨b, o + k * 5 + 3, none⟩ = some (.int .i64 xd) ∧ wX.cell? ⟨b, o + k * 5 + 4, none⟩ = some (.int .u64 xs)) := fun wX hw => by
            have h := HCK.out wX hw
            exact ⟨h 0 (by omega), h 1 (by omega), h 2 (by omega), h 3 (by omega), h 4 (by omega)⟩
          clear HCK
          refine wp_region_K (fun wx => wx.cell? ⟨b, o + k * 5, none⟩ = some (.int .i64 xf) ∧ wx.cell? ⟨b, o + k * 5 + 1, none⟩ = some (.int .i64 xt) ∧ wx.cell? ⟨b, o + k * 5 + 2, none⟩ = some (.int .i64 xa) ∧ wx.cell? ⟨b, o + k * 5 + 3, none⟩ = some (.int .i64 xd) ∧ wx.cell? ⟨b, o + k * 5 + 4, none⟩ = some (.int .u64 xs)) 10 (by kernel_rfl) (HC2.out _ (HX.out.tr hxd)) (fun hHeld => ?_)
          have XC := Lib.hid hxd
          clear hxd
          generalize wr.drew = wA at *
          have hla := HL.out.ext XC.out
          have b0 := hla.cell 0
          have b1 := hla.cell 1
          have b2 := hla.cell 2
          have b3 := hla.cell 3
          clear hla
          refine wpAnyK_takeL (i := 1) (v := ?_) rfl (by kernel_rfl) (by kernel_rfl) (by kernel_rfl) (by kernel_rfl) (fun _ _ _ h => h) (Or.inl ⟨by rfl, ?_⟩) hHeld ?_
          rotate_left
          · intro w hSw; (try dsimp only at hSw); go_simp; (try with_reducible rfl)
          try simp only [Act.put, List.setIfInBounds_toArray, List.set_cons_zero, List.set_cons_succ]
          refine wpAnyK_takeL (i := 2) (v := ?_) rfl (by kernel_rfl) (by kernel_rfl) (by kernel_rfl) (by kernel_rfl) (fun _ _ _ h => h) (Or.inl ⟨by rfl, ?_⟩) hHeld ?_
          rotate_left
          · intro w hSw; (try dsimp only at hSw); go_simp; (try with_reducible rfl)
          try simp only [Act.put, List.setIfInBounds_toArray, List.set_cons_zero, List.set_cons_succ]
          refine wpAnyK_takeL (i := 3) (v := ?_) rfl (by kernel_rfl) (by kernel_rfl) (by kernel_rfl) (by kernel_rfl) (fun _ _ _ h => h) (Or.inl ⟨by rfl, ?_⟩) hHeld ?_
          rotate_left
          · intro w hSw; (try dsimp only at hSw); go_simp; (try with_reducible rfl)
          try simp only [Act.put, List.setIfInBounds_toArray, List.set_cons_zero, List.set_cons_succ]
          refine wpAnyK_takeL (i := 4) (v := ?_) rfl (by kernel_rfl) (by kernel_rfl) (by kernel_rfl) (by kernel_rfl) (fun _ _ _ h => h) (Or.inl ⟨by rfl, ?_⟩) hHeld ?_
          rotate_left
          · intro w hSw; (try dsimp only at hSw); go_simp; (try with_reducible rfl)
          try simp only [Act.put, List.setIfInBounds_toArray, List.set_cons_zero, List.set_cons_succ]
          refine wpAnyK_takeL (i := 5) (v := ?_) rfl (by kernel_rfl) (by kernel_rfl) (by kernel_rfl) (by kernel_rfl) (fun _ _ _ h => h) (Or.inl ⟨by rfl, ?_⟩) hHeld ?_
          rotate_left
          · intro w hSw; (try dsimp only at hSw); go_simp; (try with_reducible rfl)
          try simp only [Act.put, List.setIfInBounds_toArray, List.set_cons_zero, List.set_cons_succ]
          refine wpAnyK_ready (rs := [0]) (by kernel_rfl) (by simp) ?_
          refine AllReadyK.consL (i := 0) rfl (fun K hK => ?_) ?_
          · go_simp
            clear b0 b1 b2 b3
            refine hK.out _ _ (fun _ => (HC2.out _ (HX.out.tr XC.out))) (fun hHeld2 => ?_)
            clear hK K
            try clear hHeld
            have hHeld := hHeld2 (by decide)
            clear hHeld2
            try simp only [Act.put, List.setIfInBounds_toArray, List.set_cons_zero, List.set_cons_succ]
            refine wpAnyK_ready (rs := [6]) (by kernel_rfl) (by simp) ?_
            by_cases hpe : postErr d ⟨xf, xt, xa, xd⟩ = 0
            · have had := HAD.out
              rw [if_neg (fun h => h hpe)] at had
              have HAD2 := Lib.hid had
              have HPE := Lib.hid hpe
              clear HAD had hpe HA
              refine AllReadyK.consL (i := 6) rfl (fun K hK => ?_) ?_
              · refine step_call (vs := #[.agg #[.int .u64 d.key, .slice aa l.length ca, .slice av d.ents.length cv, .int .i64 d.closed], .agg #[.int .i64 xf, .int .i64 xt, .int .i64 xa, .int .i64 xd]]) rfl rfl rfl Try.func45 (by kernel_rfl) (by kernel_rfl) (HPO.out _ (HX.out.tr XC.out) (StIn.ext sigC_len HSV.out XC.out)) ?_
                rintro e wy hp
                obtain ⟨v', rfl, hsv, hbl, hx⟩ := hp.good HPE.out
                refine ⟨_, rfl, ?_⟩
                have hxd := XC.out.tr hx
                clear hx hp
                obtain ⟨av2, cv2, rfl, _⟩ := hsv.form
                have NBL : Hid (∀ bb, (Value.slice av2 (postD d ⟨xf, xt, xa, xd⟩).ents.length cv2).ownBlock = some bb → bb ≠ lb) := fun bb hbb e => by
                  have h1 := hbl bb hbb
                  have h2 := (HL.out.ext XC.out).lt
                  omega
                clear hbl
                refine hK.out _ _ (fun _ => (HC2.out _ (HX.out.tr hxd))) (fun hHeld2 => ?_)
                clear hK K
                try clear hHeld
                have hHeld := hHeld2 (by decide)
                clear hHeld2
                try simp only [Act.put, List.setIfInBounds_toArray, List.set_cons_zero, List.set_cons_succ]
                refine wpAnyK_takeL (i := 7) (v := ?_) rfl (by kernel_rfl) (by kernel_rfl) (by kernel_rfl) (by kernel_rfl) (fun _ _ _ h => h) (Or.inl ⟨by rfl, ?_⟩) hHeld ?_
                rotate_left
                · intro w hSw; (try dsimp only at hSw); go_simp; (try with_reducible rfl)
                try simp only [Act.put, List.setIfInBounds_toArray, List.set_cons_zero, List.set_cons_succ]
                have HXD := Lib.hid hxd
                have HSP := Lib.hid hsv
                clear hxd hsv
                refine wpAnyK_takeL (i := 8) (v := ?_) rfl (by kernel_rfl) (by kernel_rfl) (by kernel_rfl) (by kernel_rfl) (fun _ _ _ h => h) (Or.inl ⟨by rfl, ?_⟩) hHeld ?_
                rotate_left
                · intro w hSw; (try dsimp only at hSw); go_simp; (try with_reducible rfl)
                try simp only [Act.put, List.setIfInBounds_toArray, List.set_cons_zero, List.set_cons_succ]
                refine wpAnyK_ready (rs := [9, 10]) (by kernel_rfl) (by simp) ?_
                refine AllReadyK.consL (i := 9) rfl (fun K hK => ?_) ?_
                · go_simp
                  refine hK.out _ _ (fun _ => (HC2.out _ (HX.out.tr HXD.out))) (fun hHeld2 => ?_)
                  clear hK K
                  try clear hHeld
                  have hHeld := hHeld2 (by decide)
                  clear hHeld2
                  try simp only [Act.put, List.setIfInBounds_toArray, List.set_cons_zero, List.set_cons_succ]
                  refine wpAnyK_ready (rs := [10]) (by kernel_rfl) (by simp) ?_
                  refine AllReadyK.consL (i := 10) rfl (fun K hK => ?_) ?_
                  · refine step_storeK (cells := #[.int .u64 d.key, .slice aa l.length ca, .slice av2 (postD d ⟨xf, xt, xa, xd⟩).ents.length cv2, .int .i64 d.closed]) rfl rfl (HL.out.ext HXD.out) rfl rfl (by kernel_rfl) rfl (by simp [Value.oneCell']) ?_
                    intro w5 hb5 ho5
                    refine hK.out _ _ (fun h => absurd h (by decide)) (fun hHeld2 => ?_)
                    clear hK K hHeld2
                    try clear hHeld
                    try simp only [Act.put, List.setIfInBounds_toArray, List.set_cons_zero, List.set_cons_succ]
                    have hx5 := (HX.out.tr HXD.out).then_only ho5 (fun q (e : q = lb) => by rw [e]; exact LL.out)
                    refine wpAnyK_ready (rs := [11]) (by kernel_rfl) (by simp) ?_
                    refine AllReadyK.consL (i := 11) rfl (fun K hK => ?_) ?_
                    · go_simp
                      refine hK.out _ _ (fun h => absurd h (by decide)) (fun hHeld2 => ?_)
                      clear hK K hHeld2
                      try clear hHeld
                      try simp only [Act.put, List.setIfInBounds_toArray, List.set_cons_zero, List.set_cons_succ]
                      refine wpAnyK_done (by kernel_rfl) ?_ _
                      have hs5 : SigIn w5 (.slice av2 (postD d ⟨xf, xt, xa, xd⟩).ents.length cv2) (postD d ⟨xf, xt, xa, xd⟩).ents := StIn.only sigC_len HSP.out ho5 (fun bb hbb e => NBL.out bb hbb e)
                      have hok5 := HO.out.post HPE.out
                      have hk5 : (postD d ⟨xf, xt, xa, xd⟩).ents.length = k + 1 := by simp [postD]; exact HK.out
                      have hek : (postD d ⟨xf, xt, xa, xd⟩).ents[k]'(by omega) = ⟨⟨xf, xt, xa, xd⟩, signOf d ⟨xf, xt, xa, xd⟩⟩ := by
                        have := HK.out
                        simp [postD, List.getElem_append_right, this]
                      have hda5 : (postD d ⟨xf, xt, xa, xd⟩).acc = l := HDA.out
                      have hb6 : Blk w5 lb #[.int .u64 (postD d ⟨xf, xt, xa, xd⟩).key, .slice aa l.length ca, .slice av2 (postD d ⟨xf, xt, xa, xd⟩).ents.length cv2, .int .i64 (postD d ⟨xf, xt, xa, xd⟩).closed] 81 := hb5
                      have had := HAD2.out
                      obtain ⟨sg, hsg⟩ : ∃ s, s = signOf d ⟨xf, xt, xa, xd⟩ := ⟨_, rfl⟩
                      rw [← hsg] at hek had
                      clear hsg hb5
                      obtain ⟨b5, o5, rfl, hc5⟩ := hs5.cells (by omega)
                      obtain ⟨s0, s1, s2, s3, s4⟩ := hc5 k (by omega)
                      rw [hek] at s0 s1 s2 s3 s4
                      dsimp only at s0 s1 s2 s3 s4
                      obtain ⟨e0, e1, e2, e3, e4⟩ := HC2.out _ hx5
                      have b2 := hb6.cell 2
                      rw [hk5] at b2
                      have jk1 : (k:Int) < ((k + 1 : Nat):Int) := by omega
                      have hk6 : k + 1 ≤ 5000 := by omega
                      clear hc5 hek HSV HSP HPO HO HAD2 HL
                      have HOK5 := Lib.hid hok5
                      have HK5 := Lib.hid hk5
                      have HAD3 := Lib.hid had
                      have HL := Lib.hid hb6
                      have HS5 := Lib.hid hs5
                      have HDA5 := Lib.hid hda5
                      have HX5 := Lib.hid hx5
                      clear hok5 hk5 had hb6 hs5 hda5 hx5
                      clear ho5
                      by_cases hq : sg = xs
                      · have had := HAD3.out
                        rw [if_neg (fun h => h hq)] at had
                        have HAD4 := Lib.hid had
                        subst hq
                        clear had HAD3
                        go_upto_region 12 with (fail)
                        go_quiet (fail)
                        go_wp2
                        go_roundw
                        case rel => exact ⟨k + 1, by omega, by go_num, postD d ⟨xf, xt, xa, xd⟩, _, Lib.hid (HL.out.ext (Ext.of_drewN _ _)), HDA5, Lib.hid (StIn.ext sigC_len HS5.out (Ext.of_drewN _ _)), HOK5, HK5, HAD4, Lib.hid (HX5.out.drewN _)⟩
                        case measure => simp [intOf]; omega
                      · have hne : (sg == xs) = false := by simp [hq]
                        have had := HAD3.out
                        rw [if_pos hq] at had
                        have HAD4 := Lib.hid had
                        clear had HAD3 hq
                        go_upto_region 12 with (fail)
                        go_quiet (fail)
                        go_wp2
                        go_ret2
                        exact ⟨by rw [HAD4.out]; rfl, HX5.out.drewN _⟩
                    · exact AllReadyK.nil
                  · exact AllReadyK.nil
                · refine AllReadyK.consL (i := 10) rfl (fun K hK => ?_) ?_
                  · refine step_storeK (cells := #[.int .u64 d.key, .slice aa l.length ca, .slice av2 (postD d ⟨xf, xt, xa, xd⟩).ents.length cv2, .int .i64 d.closed]) rfl rfl (HL.out.ext HXD.out) rfl rfl (by kernel_rfl) rfl (by simp [Value.oneCell']) ?_
                    intro w5 hb5 ho5
                    refine hK.out _ _ (fun h => absurd h (by decide)) (fun hHeld2 => ?_)
                    clear hK K hHeld2
                    try clear hHeld
                    try simp only [Act.put, List.setIfInBounds_toArray, List.set_cons_zero, List.set_cons_succ]
                    have hx5 := (HX.out.tr HXD.out).then_only ho5 (fun q (e : q = lb) => by rw [e]; exact LL.out)
                    refine wpAnyK_ready (rs := [9]) (by kernel_rfl) (by simp) ?_
                    refine AllReadyK.consL (i := 9) rfl (fun K hK => ?_) ?_
                    · go_simp
                      refine hK.out _ _ (fun _ => (HC2.out _ hx5)) (fun hHeld2 => ?_)
                      clear hK K
                      try clear hHeld
                      have hHeld := hHeld2 (by decide)
                      clear hHeld2
                      try simp only [Act.put, List.setIfInBounds_toArray, List.set_cons_zero, List.set_cons_succ]
                      refine wpAnyK_ready (rs := [11]) (by kernel_rfl) (by simp) ?_
                      refine AllReadyK.consL (i := 11) rfl (fun K hK => ?_) ?_
                      · go_simp
                        refine hK.out _ _ (fun h => absurd h (by decide)) (fun hHeld2 => ?_)
                        clear hK K hHeld2
                        try clear hHeld
                        try simp only [Act.put, List.setIfInBounds_toArray, List.set_cons_zero, List.set_cons_succ]
                        refine wpAnyK_done (by kernel_rfl) ?_ _
                        have hs5 : SigIn w5 (.slice av2 (postD d ⟨xf, xt, xa, xd⟩).ents.length cv2) (postD d ⟨xf, xt, xa, xd⟩).ents := StIn.only sigC_len HSP.out ho5 (fun bb hbb e => NBL.out bb hbb e)
                        have hok5 := HO.out.post HPE.out
                        have hk5 : (postD d ⟨xf, xt, xa, xd⟩).ents.length = k + 1 := by simp [postD]; exact HK.out
                        have hek : (postD d ⟨xf, xt, xa, xd⟩).ents[k]'(by omega) = ⟨⟨xf, xt, xa, xd⟩, signOf d ⟨xf, xt, xa, xd⟩⟩ := by
                          have := HK.out
                          simp [postD, List.getElem_append_right, this]
                        have hda5 : (postD d ⟨xf, xt, xa, xd⟩).acc = l := HDA.out
                        have hb6 : Blk w5 lb #[.int .u64 (postD d ⟨xf, xt, xa, xd⟩).key, .slice aa l.length ca, .slice av2 (postD d ⟨xf, xt, xa, xd⟩).ents.length cv2, .int .i64 (postD d ⟨xf, xt, xa, xd⟩).closed] 81 := hb5
                        have had := HAD2.out
                        obtain ⟨sg, hsg⟩ : ∃ s, s = signOf d ⟨xf, xt, xa, xd⟩ := ⟨_, rfl⟩
                        rw [← hsg] at hek had
                        clear hsg hb5
                        obtain ⟨b5, o5, rfl, hc5⟩ := hs5.cells (by omega)
                        obtain ⟨s0, s1, s2, s3, s4⟩ := hc5 k (by omega)
                        rw [hek] at s0 s1 s2 s3 s4
                        dsimp only at s0 s1 s2 s3 s4
                        obtain ⟨e0, e1, e2, e3, e4⟩ := HC2.out _ hx5
                        have b2 := hb6.cell 2
                        rw [hk5] at b2
                        have jk1 : (k:Int) < ((k + 1 : Nat):Int) := by omega
                        have hk6 : k + 1 ≤ 5000 := by omega
                        clear hc5 hek HSV HSP HPO HO HAD2 HL
                        have HOK5 := Lib.hid hok5
                        have HK5 := Lib.hid hk5
                        have HAD3 := Lib.hid had
                        have HL := Lib.hid hb6
                        have HS5 := Lib.hid hs5
                        have HDA5 := Lib.hid hda5
                        have HX5 := Lib.hid hx5
                        clear hok5 hk5 had hb6 hs5 hda5 hx5
                        clear ho5
                        by_cases hq : sg = xs
                        · have had := HAD3.out
                          rw [if_neg (fun h => h hq)] at had
                          have HAD4 := Lib.hid had
                          subst hq
                          clear had HAD3
                          go_upto_region 12 with (fail)
                          go_quiet (fail)
                          go_wp2
                          go_roundw
                          case rel => exact ⟨k + 1, by omega, by go_num, postD d ⟨xf, xt, xa, xd⟩, _, Lib.hid (HL.out.ext (Ext.of_drewN _ _)), HDA5, Lib.hid (StIn.ext sigC_len HS5.out (Ext.of_drewN _ _)), HOK5, HK5, HAD4, Lib.hid (HX5.out.drewN _)⟩
                          case measure => simp [intOf]; omega
                        · have hne : (sg == xs) = false := by simp [hq]
                          have had := HAD3.out
                          rw [if_pos hq] at had
                          have HAD4 := Lib.hid had
                          clear had HAD3 hq
                          go_upto_region 12 with (fail)
                          go_quiet (fail)
                          go_wp2
                          go_ret2
                          exact ⟨by rw [HAD4.out]; rfl, HX5.out.drewN _⟩
                      · exact AllReadyK.nil
                    · exact AllReadyK.nil
                  · exact AllReadyK.nil
              · exact AllReadyK.nil
            · have had := HAD.out
              rw [if_pos hpe] at had
              obtain ⟨er, her⟩ : ∃ er, er = postErr d ⟨xf, xt, xa, xd⟩ := ⟨_, rfl⟩
              rw [← her] at had
              have hne : (er != 0) = true := by rw [her]; simpa using hpe
              have HAD2 := Lib.hid had
              have HER := Lib.hid her
              have HPE := Lib.hid hpe
              clear HAD had hpe her HA
              refine AllReadyK.consL (i := 6) rfl (fun K hK => ?_) ?_
              · refine step_call (vs := #[.agg #[.int .u64 d.key, .slice aa l.length ca, .slice av d.ents.length cv, .int .i64 d.closed], .agg #[.int .i64 xf, .int .i64 xt, .int .i64 xa, .int .i64 xd]]) rfl rfl rfl Try.func45 (by kernel_rfl) (by kernel_rfl) (HPO.out _ (HX.out.tr XC.out) (StIn.ext sigC_len HSV.out XC.out)) ?_
                rintro e wy hp
                obtain ⟨rfl, hx⟩ := hp.bad HPE.out
                refine ⟨_, rfl, ?_⟩
                rw [← HER.out]
                unfold rLed
                have hxd := XC.out.tr hx
                clear hx hp
                refine hK.out _ _ (fun _ => (HC2.out _ (HX.out.tr hxd))) (fun hHeld2 => ?_)
                clear hK K
                try clear hHeld
                have hHeld := hHeld2 (by decide)
                clear hHeld2
                try simp only [Act.put, List.setIfInBounds_toArray, List.set_cons_zero, List.set_cons_succ]
                refine wpAnyK_takeL (i := 7) (v := ?_) rfl (by kernel_rfl) (by kernel_rfl) (by kernel_rfl) (by kernel_rfl) (fun _ _ _ h => h) (Or.inl ⟨by rfl, ?_⟩) hHeld ?_
                rotate_left
                · intro w hSw; (try dsimp only at hSw); go_simp; (try with_reducible rfl)
                try simp only [Act.put, List.setIfInBounds_toArray, List.set_cons_zero, List.set_cons_succ]
                have HXD := Lib.hid hxd
                clear hxd
                refine wpAnyK_takeL (i := 8) (v := ?_) rfl (by kernel_rfl) (by kernel_rfl) (by kernel_rfl) (by kernel_rfl) (fun _ _ _ h => h) (Or.inl ⟨by rfl, ?_⟩) hHeld ?_
                rotate_left
                · intro w hSw; (try dsimp only at hSw); go_simp; (try with_reducible rfl)
                try simp only [Act.put, List.setIfInBounds_toArray, List.set_cons_zero, List.set_cons_succ]
                refine wpAnyK_ready (rs := [9, 10]) (by kernel_rfl) (by simp) ?_
                refine AllReadyK.consL (i := 9) rfl (fun K hK => ?_) ?_
                · go_simp
                  refine hK.out _ _ (fun _ => (HC2.out _ (HX.out.tr HXD.out))) (fun hHeld2 => ?_)
                  clear hK K
                  try clear hHeld
                  have hHeld := hHeld2 (by decide)
                  clear hHeld2
                  try simp only [Act.put, List.setIfInBounds_toArray, List.set_cons_zero, List.set_cons_succ]
                  refine wpAnyK_ready (rs := [10]) (by kernel_rfl) (by simp) ?_
                  refine AllReadyK.consL (i := 10) rfl (fun K hK => ?_) ?_
                  · refine step_storeK (cells := #[.int .u64 d.key, .slice aa l.length ca, .slice av d.ents.length cv, .int .i64 d.closed]) rfl rfl (HL.out.ext HXD.out) rfl rfl (by kernel_rfl) rfl (by simp [Value.oneCell']) ?_
                    intro w5 hb5 ho5
                    refine hK.out _ _ (fun h => absurd h (by decide)) (fun hHeld2 => ?_)
                    clear hK K hHeld2
                    try clear hHeld
                    try simp only [Act.put, List.setIfInBounds_toArray, List.set_cons_zero, List.set_cons_succ]
                    have hx5 := (HX.out.tr HXD.out).then_only ho5 (fun q (e : q = lb) => by rw [e]; exact LL.out)
                    refine wpAnyK_ready (rs := [11]) (by kernel_rfl) (by simp) ?_
                    refine AllReadyK.consL (i := 11) rfl (fun K hK => ?_) ?_
                    · go_simp
                      refine hK.out _ _ (fun h => absurd h (by decide)) (fun hHeld2 => ?_)
                      clear hK K hHeld2
                      try clear hHeld
                      try simp only [Act.put, List.setIfInBounds_toArray, List.set_cons_zero, List.set_cons_succ]
                      refine wpAnyK_done (by kernel_rfl) ?_ _
                      have HX5 := Lib.hid hx5
                      clear hx5
                      clear ho5 hb5
                      go_wp2
                      go_ret2
                      exact ⟨by rw [HAD2.out]; rfl, HX5.out⟩
                    · exact AllReadyK.nil
                  · exact AllReadyK.nil
                · refine AllReadyK.consL (i := 10) rfl (fun K hK => ?_) ?_
                  · refine step_storeK (cells := #[.int .u64 d.key, .slice aa l.length ca, .slice av d.ents.length cv, .int .i64 d.closed]) rfl rfl (HL.out.ext HXD.out) rfl rfl (by kernel_rfl) rfl (by simp [Value.oneCell']) ?_
                    intro w5 hb5 ho5
                    refine hK.out _ _ (fun h => absurd h (by decide)) (fun hHeld2 => ?_)
                    clear hK K hHeld2
                    try clear hHeld
                    try simp only [Act.put, List.setIfInBounds_toArray, List.set_cons_zero, List.set_cons_succ]
                    have hx5 := (HX.out.tr HXD.out).then_only ho5 (fun q (e : q = lb) => by rw [e]; exact LL.out)
                    refine wpAnyK_ready (rs := [9]) (by kernel_rfl) (by simp) ?_
                    refine AllReadyK.consL (i := 9) rfl (fun K hK => ?_) ?_
                    · go_simp
                      refine hK.out _ _ (fun _ => (HC2.out _ hx5)) (fun hHeld2 => ?_)
                      clear hK K
                      try clear hHeld
                      have hHeld := hHeld2 (by decide)
                      clear hHeld2
                      try simp only [Act.put, List.setIfInBounds_toArray, List.set_cons_zero, List.set_cons_succ]
                      refine wpAnyK_ready (rs := [11]) (by kernel_rfl) (by simp) ?_
                      refine AllReadyK.consL (i := 11) rfl (fun K hK => ?_) ?_
                      · go_simp
                        refine hK.out _ _ (fun h => absurd h (by decide)) (fun hHeld2 => ?_)
                        clear hK K hHeld2
                        try clear hHeld
                        try simp only [Act.put, List.setIfInBounds_toArray, List.set_cons_zero, List.set_cons_succ]
                        refine wpAnyK_done (by kernel_rfl) ?_ _
                        have HX5 := Lib.hid hx5
                        clear hx5
                        clear ho5 hb5
                        go_wp2
                        go_ret2
                        exact ⟨by rw [HAD2.out]; rfl, HX5.out⟩
                      · exact AllReadyK.nil
                    · exact AllReadyK.nil
                  · exact AllReadyK.nil
              · exact AllReadyK.nil
          · exact AllReadyK.nil
        · obtain rfl : k = es.length := by omega
          have had := HA.out
          rw [auditF_end _ _ _ (Nat.le_refl _)] at had
          have HAD := Lib.hid had
          clear had hlt
          go_wp2
          go_ret2
          exact ⟨by rw [HAD.out]; rfl, HX.out⟩
  · have hN := rNew_bad key l _ w ha hce
    obtain ⟨er, her⟩ : ∃ er, er = checkE l := ⟨_, rfl⟩
    have hr : ar = (0, er) := by rw [HAR.out, her]; unfold auditR; rw [if_pos hce]
    have hne : (er != 0) = true := by rw [her]; simpa using hce
    have hne2 : (er == 0) = false := by rw [her]; simpa using hce
    rw [← her] at hN
    have HR := Lib.hid hr
    have HN := Lib.hid hN
    clear hN
    clear hr HS hce her ha hs
    go_enter Try.func35, Try.ntmps35
    go_wp2_with (first
      | (go_at_call 41
         refine HN.out.mono ?_
         rintro e w1 ⟨rfl, hx1⟩
         have X := Lib.hid hx1
         clear hx1)
      | (with_reducible refine wpList_allocA (t := 81) rfl rfl Try.zeroValue81 ?_
         rintro lb w2 hb2 hx2 hl2
         have ll := Nat.le_trans X.out.size hl2
         replace X := Lib.hid (X.out.ext hx2)
         have LB := Lib.hid hb2
         have LL := Lib.hid ll
         clear hb2 ll
         clear hl2 hx2)
      | (with_reducible refine wpList_storeK (cells := #[.int .u64 0, .slice none 0 0, .slice none 0 0, .int .i64 0]) rfl rfl LB.out ?_ ?_ ?_ ?_ ?_ ?_
         · rfl
         · rfl
         · kernel_rfl
         · rfl
         · simp [Value.oneCell']
         rintro w3 hb3 ho3
         have hx3 := X.out.then_only ho3 (fun k (e : k = lb) => by rw [e]; exact LL.out)
         clear X LB
         have X := Lib.hid hx3
         have LB := Lib.hid hb3
         clear hx3 hb3
         clear ho3))
    go_ret2
    exact ⟨by rw [HR.out]; rfl, X.out⟩
end Go.Proofs.Ytekplfbfkfiabaa
