/- Audit of the program. -/
import Derived.Test.YtekplfbfkfiabaaBkPost2
namespace Go.Proofs.Ytekplfbfkfiabaa
open Go.RowKit
set_option linter.unusedVariables false
set_option linter.unusedSimpArgs false

def auditF : LedD → List SigD → Nat → Int × Int
  | _, [], k => ((k : Int), 0)
  | d, x :: xs, k => if postErr d x.e ≠ 0 then ((k : Int), postErr d x.e) else if signOf d x.e ≠ x.sign then ((k : Int), 7) else auditF (postD d x.e) xs (k + 1)
def auditR (key : Int) (l : List AccD) (es : List SigD) : Int × Int :=
  if checkE l ≠ 0 then (0, checkE l) else if 5000 < es.length then (0, 2) else auditF (newD key l) es 0
theorem auditF_drop (d : LedD) (es : List SigD) (k : Nat) (hk : k < es.length) : auditF d (es.drop k) k = if postErr d es[k].e ≠ 0 then ((k : Int), postErr d es[k].e) else if signOf d es[k].e ≠ es[k].sign then ((k : Int), 7) else auditF (postD d es[k].e) (es.drop (k + 1)) (k + 1) := by
  rw [List.drop_eq_getElem_cons hk]; rfl
theorem auditF_end (d : LedD) (es : List SigD) (k : Nat) (hk : es.length ≤ k) : auditF d (es.drop k) k = ((k : Int), 0) := by
  rw [List.drop_eq_nil_of_le hk]; rfl

theorem LSt.va_lt {w : World} {B lb : Nat} {d : LedD} {m : LMem} (h : LSt w B lb d m) (ok : LedOk d) : ∀ b, m.va.ownBlock = some b → b < w.heap.size := fun b hb => by
  have hn := ok.n1
  unfold LedD.n at hn
  obtain ⟨a, c, hv, HA⟩ := h.row.form
  obtain ⟨b1, o1, ha, hc⟩ := HA.out.cells (by omega)
  have h5 := (hc 0 (by omega)).1
  rw [hv, ha] at hb
  cases hb
  exact World.block_lt_of_cell? w _ h5
theorem PostPost.bad {w w' : World} {B lb : Nat} {d : LedD} {m : LMem} {x : EntD} {e : Ending} (h : PostPost w B lb d m x e w') (hp : postErr d x ≠ 0) : e = .returned (.int .i64 (postErr d x)) ∧ Ext w w' := by
  obtain ⟨h1, h2⟩ := h
  rcases h2 with ⟨_, h3⟩ | ⟨h3, _⟩
  · exact ⟨h1, h3⟩
  · exact absurd h3 hp
theorem PostPost.good {w w' : World} {B lb : Nat} {d : LedD} {m : LMem} {x : EntD} {e : Ending} (h : PostPost w B lb d m x e w') (hp : postErr d x = 0) : e = .returned (.int .i64 0) ∧ ∃ v', LSt w' B lb (postD d x) { m with ve := v' } ∧ FreshOr w m.ve v' ∧ Only (fun k => k = lb ∨ m.ve.ownBlock = some k) w w' := by
  obtain ⟨h1, h2⟩ := h
  rcases h2 with ⟨h3, _⟩ | ⟨_, h4⟩
  · exact absurd hp h3
  · exact ⟨by rw [h1, hp], h4⟩

set_option maxRecDepth 100000 in
set_option maxHeartbeats 4000000 in
theorem audit_any (key : Int) (l : List AccD) (es : List SigD) (va ve : Value) (w : World) (ha : AccIn w va l) (hs : SigIn w ve es) (hk : U64 key) (hf : ∀ x ∈ es, x.e.fits) :
    Calls Try.prog 34 #[.int .u64 key, va, ve] w fun e w' => e = .returned (.tuple #[.int .i64 (auditR key l es).1, .int .i64 (auditR key l es).2]) ∧ Ext w w' := by
  obtain ⟨ar, har⟩ : ∃ r, r = auditR key l es := ⟨_, rfl⟩
  rw [← har]
  have hN := new_any key l va w ha
  have hel := hs.len
  obtain ⟨a, c, rfl, HS⟩ := hs.form
  have HN := Lib.hid hN
  have HAR := Lib.hid har
  have HF := Lib.hid hf
  clear hN har hf
  clear ha hs
  by_cases hce : checkE l = 0
  · by_cases hlen : 5000 < es.length
    · have hr : ar = (0, 2) := by rw [HAR.out]; unfold auditR; rw [if_neg (fun h => h hce), if_pos hlen]
      have HR := Lib.hid hr
      have HNP : Hid (∀ e w1, NewPost w key l e w1 → ∃ lb, e = .returned (.tuple #[.pointer (some ⟨lb, 0, none⟩), .int .i64 0]) ∧ Ext w w1) := fun e w1 hh => by
        rcases hh with ⟨h1, _⟩ | ⟨_, lb, m, h2, h3, _, _, _, h4⟩
        · exact absurd hce h1
        · exact ⟨lb, h2, h4⟩
      clear hr HS hce
      go_enter Try.func34, Try.ntmps34
      go_wp2_with (
        go_at_call 40
        refine HN.out.mono ?_
        rintro e w1 hnp
        obtain ⟨lb, rfl, hx⟩ := HNP.out e w1 hnp
        clear hnp
        have X := Lib.hid hx
        clear hx)
      go_ret2
      exact ⟨by rw [HR.out]; rfl, X.out⟩
    · have hr : ar = auditF (newD key l) es 0 := by rw [HAR.out]; unfold auditR; rw [if_neg (fun h => h hce), if_neg hlen]
      have HR := Lib.hid hr
      have hle : es.length ≤ 5000 := by omega
      have HOK := Lib.hid (LedOk.new hk hce)
      have HCE := Lib.hid hce
      clear hce
      clear hr hlen
      go_enter Try.func34, Try.ntmps34
      have HNP : Hid (∀ e w1, NewPost w key l e w1 → ∃ lb m, e = .returned (.tuple #[.pointer (some ⟨lb, 0, none⟩), .int .i64 0]) ∧ LSt w1 w.heap.size lb (newD key l) m ∧ Ext w w1) := fun e w1 hh => by
        rcases hh with ⟨h1, _⟩ | ⟨_, lb, m, h2, h3, _, _, _, h4⟩
        · exact absurd HCE.out h1
        · exact ⟨lb, m, h2, h3, h4⟩
      go_upto_region 2 with (
        go_at_call 40
        refine HN.out.mono ?_
        rintro e w1 hnp
        obtain ⟨lb, m, rfl, hls, hx⟩ := HNP.out e w1 hnp
        clear hnp
        have L := Lib.hid hls
        have X := Lib.hid hx
        clear hls hx)
      go_wp2
      go_loopw [29] (fun t wr => ∃ k : Nat, k ≤ es.length ∧ t = .int .i64 k ∧ ∃ d m, Hid (LSt wr w.heap.size lb d m) ∧ Hid (LedOk d) ∧ Hid (d.ents.length = k) ∧ Hid (ar = auditF d (es.drop k) k) ∧ Hid (Ext w wr)) (fun t _ => es.length - (intOf t).toNat)
      case atStart => exact ⟨0, Nat.zero_le _, rfl, _, _, L.out, HOK.out, rfl, HR.out, X.out⟩
      case round =>
        obtain ⟨k, hk, rfl, d, m, HL, HO, HK, HA, HX⟩ := hrel
        clear L X HR HOK
        by_cases hlt : k < es.length
        · obtain ⟨b, o, rfl, hc⟩ := HS.out.cells (by omega)
          have hxr := HX.out
          have e0 := hxr.cellSome (hc k hlt).1
          have e1 := hxr.cellSome (hc k hlt).2.1
          have e2 := hxr.cellSome (hc k hlt).2.2.1
          have e3 := hxr.cellSome (hc k hlt).2.2.2.1
          have e4 := hxr.cellSome (hc k hlt).2.2.2.2
          have had := HA.out
          rw [auditF_drop d es k hlt] at had
          have hft := HF.out es[k] (List.getElem_mem hlt)
          obtain ⟨x, hx⟩ : ∃ x, x = es[k] := ⟨_, rfl⟩
          rw [← hx] at e0 e1 e2 e3 e4 had hft
          clear hx hc hxr
          have hpost := fun w2 (h : LSt w2 w.heap.size lb d m) (hw : Ext w w2) => post_any w.heap.size lb d m x.e w2 h HO.out hw.size hft
          obtain ⟨⟨xf, xt, xa, xd⟩, xs⟩ := x
          dsimp only at e0 e1 e2 e3 e4 had hft hpost
          unfold entV at hpost
          dsimp only at hpost
          have j1 : (0:Int) ≤ (k:Int) := by omega
          have j2 : (k:Int) < (es.length:Int) := by omega
          have HPO := Lib.hid hpost
          have HAD := Lib.hid had
          clear hpost had
          clear hft
          go_upto_region 9 with (first
            | (with_reducible refine wpList_allocA (t := 76) rfl rfl Try.zeroValue76 ?_
               rintro pb w3 hb3 hx3 hl3
               replace e0 := hx3.cellSome e0
               replace e1 := hx3.cellSome e1
               replace e2 := hx3.cellSome e2
               replace e3 := hx3.cellSome e3
               replace e4 := hx3.cellSome e4
               have lp : w.heap.size ≤ pb := Nat.le_trans HX.out.size hl3
               have np : pb ≠ lb ∧ pb ≠ m.ab ∧ (∀ b, m.ve.ownBlock = some b → b ≠ pb) := by
                 have h1 := HL.out.led.lt
                 have h2 := HL.out.acc.lt
                 refine ⟨by omega, by omega, fun b hb => ?_⟩
                 have h3 := (HL.out.ents.lt b hb).2
                 omega
               have hva : ∀ b, m.va.ownBlock = some b → b ≠ pb := fun b hb => by
                 have := HL.out.va_lt HO.out b hb
                 omega
               replace HL := Lib.hid (HL.out.ext hx3)
               replace HX := Lib.hid (HX.out.ext hx3)
               have PB := Lib.hid hb3
               have LP := Lib.hid lp
               have NP := Lib.hid np
               have HVA := Lib.hid hva
               clear hb3 lp np hva
               clear hx3 hl3)
            | (with_reducible refine wpList_storeK (cells := #[.int .i64 xf, .int .i64 xt, .int .i64 xa, .int .i64 xd, .int .u64 xs]) rfl rfl PB.out ?_ ?_ ?_ ?_ ?_ ?_
               · rfl
               · rfl
               · kernel_rfl
               · rfl
               · simp [Value.oneCell']
               rintro w4 hb4 ho4
               have hx4 := HX.out.then_only ho4 (fun k (e : k = pb) => by rw [e]; exact LP.out)
               have hl4 := HL.out.only ho4 (fun e => NP.out.1 e.symm) (fun e => NP.out.2.1 e.symm) HVA.out NP.out.2.2
               have p0 := hb4.cell 0
               have p1 := hb4.cell 1
               have p2 := hb4.cell 2
               have p3 := hb4.cell 3
               clear HX PB HL e0 e1 e2 e3 e4
               have HX := Lib.hid hx4
               have HL := Lib.hid hl4
               have PB := Lib.hid hb4
               clear hx4 hl4 hb4
               clear ho4))
          by_cases hpe : postErr d ⟨xf, xt, xa, xd⟩ = 0
          · have had := HAD.out
            rw [if_neg (fun h => h hpe)] at had
            have HAD2 := Lib.hid had
            have HPE := Lib.hid hpe
            clear HAD had hpe HA
            go_upto_region 10 with (
              go_at_call 31
              refine (HPO.out _ HL.out HX.out).mono ?_
              rintro e w5 hp
              obtain ⟨rfl, v', hl5, hf5, ho5⟩ := hp.good HPE.out
              clear hp
              have hx5 := HX.out.then_only ho5 (fun q hq => by
                rcases hq with hq | hq
                · rw [hq]; exact HL.out.blt
                · exact (HL.out.ents.lt q hq).1)
              have pb5 := PB.out.only ho5 (fun hq => by
                rcases hq with hq | hq
                · exact NP.out.1 hq
                · exact NP.out.2.2 _ hq rfl)
              have p4 := pb5.cell 4
              clear HX HL p0 p1 p2 p3
              have HX := Lib.hid hx5
              have HL := Lib.hid hl5
              clear hx5 hl5
              clear hf5 ho5 pb5)
            have hok5 := HO.out.post HPE.out
            have hk5 : (postD d ⟨xf, xt, xa, xd⟩).ents.length = k + 1 := by simp [postD]; exact HK.out
            have c2 := HL.out.c2
            obtain ⟨a5, c5, hv5, HS5⟩ := (HL.out.sig hok5.len).form
            have hv6 : v' = .slice a5 (postD d ⟨xf, xt, xa, xd⟩).ents.length c5 := hv5
            obtain ⟨b5, o5, rfl, hc5⟩ := HS5.out.cells (by omega)
            have s4 := (hc5 k (by omega)).2.2.2.2
            have hsk : ((postD d ⟨xf, xt, xa, xd⟩).ents[k]'(by omega)).sign = signOf d ⟨xf, xt, xa, xd⟩ := by
              have := HK.out
              simp [postD, List.getElem_append_right, this]
            rw [hsk] at s4
            dsimp only at c2
            rw [hv6, hk5] at c2
            obtain ⟨sg, hsg⟩ : ∃ s, s = signOf d ⟨xf, xt, xa, xd⟩ := ⟨_, rfl⟩
            rw [← hsg] at s4
            have had := HAD2.out
            rw [← hsg] at had
            have jk1 : (k:Int) < ((k + 1 : Nat):Int) := by omega
            have hk6 : k + 1 ≤ 5000 := by omega
            clear hsg hsk hc5 hv5 hv6 HS5 HAD2
            have HOK5 := Lib.hid hok5
            have HK5 := Lib.hid hk5
            have HAD3 := Lib.hid had
            clear hok5 hk5 had
            by_cases hq : sg = xs
            · have hne : (sg != xs) = false := by simp [hq]
              have had := HAD3.out
              rw [if_neg (fun h => h hq)] at had
              have HAD4 := Lib.hid had
              clear had hq HAD3
              go_wp2
              go_quiet (fail)
              go_wp2
              go_roundw
              case rel => exact ⟨k + 1, by omega, by go_num, _, _, Lib.hid (HL.out.ext (Ext.of_drewN _ _)), HOK5, HK5, HAD4, Lib.hid (HX.out.drewN _)⟩
              case measure => simp [intOf]; omega
            · have hne : (sg != xs) = true := by simp [hq]
              have had := HAD3.out
              rw [if_pos hq] at had
              have HAD4 := Lib.hid had
              clear had hq HAD3
              go_wp2
              go_quiet (fail)
              go_wp2
              go_ret2
              exact ⟨by rw [HAD4.out]; rfl, HX.out.drewN _⟩
          · have had := HAD.out
            rw [if_pos hpe] at had
            obtain ⟨er, her⟩ : ∃ er, er = postErr d ⟨xf, xt, xa, xd⟩ := ⟨_, rfl⟩
            rw [← her] at had
            have hne : (er != 0) = true := by rw [her]; simpa using hpe
            have HAD2 := Lib.hid had
            have HER := Lib.hid her
            have HPE := Lib.hid hpe
            clear HAD had hpe her HA
            go_wp2_with (
              go_at_call 31
              refine (HPO.out _ HL.out HX.out).mono ?_
              rintro e w5 hp
              obtain ⟨rfl, hx5⟩ := hp.bad HPE.out
              rw [← HER.out]
              clear hp
              have hx6 := HX.out.tr hx5
              clear HX HL p0 p1 p2 p3
              have HX := Lib.hid hx6
              clear hx6
              clear hx5)
            go_ret2
            exact ⟨by rw [HAD2.out]; rfl, HX.out⟩
        · obtain rfl : k = es.length := by omega
          have had := HA.out
          rw [auditF_end _ _ _ (Nat.le_refl _)] at had
          have HAD := Lib.hid had
          clear had hlt
          go_wp2
          go_ret2
          exact ⟨by rw [HAD.out]; rfl, HX.out⟩
  · obtain ⟨er, her⟩ : ∃ er, er = checkE l := ⟨_, rfl⟩
    have hr : ar = (0, er) := by rw [HAR.out, her]; unfold auditR; rw [if_pos hce]
    have hne : (er != 0) = true := by rw [her]; simpa using hce
    have HNP : Hid (∀ e w1, NewPost w key l e w1 → e = .returned (.tuple #[.pointer none, .int .i64 er]) ∧ Ext w w1) := fun e w1 hh => by
      rcases hh with ⟨h1, h2, h3⟩ | ⟨h1, _⟩
      · exact ⟨by rw [h2, her], h3⟩
      · exact absurd h1 hce
    have HR := Lib.hid hr
    clear hr HS hce her
    go_enter Try.func34, Try.ntmps34
    go_wp2_with (
      go_at_call 40
      refine HN.out.mono ?_
      rintro e w1 hnp
      obtain ⟨rfl, hx⟩ := HNP.out e w1 hnp
      clear hnp
      have X := Lib.hid hx
      clear hx)
    go_ret2
    exact ⟨by rw [HR.out]; rfl, X.out⟩
end Go.Proofs.Ytekplfbfkfiabaa
