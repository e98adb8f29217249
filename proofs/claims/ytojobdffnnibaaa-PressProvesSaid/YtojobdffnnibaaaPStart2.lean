/- start. -/
import Derived.Test.YtojobdffnnibaaaPStart
namespace Go.Proofs.Ytojobdffnnibaaa
open Go.RowKit
set_option linter.unusedVariables false
set_option linter.unusedSimpArgs false

/-- The state that is cloned: a press at work. -/
theorem MOw.mk' {w0 w : World} {mb pb ub c : Nat} {p : PressD} {s : StD} {vj v : Value} (hv : v = .slice (some ⟨ub, 0, none⟩) s.units.length c)
    (hm : Blk w mb #[.pointer (some ⟨pb, 0, none⟩), .int .i64 s.drive, .bool s.folder, v, .int .i64 s.fresh] 104)
    (hp : Blk w pb #[vj, .int .i64 p.warm, .int .i64 p.tail, .int .i64 p.dirt] 32) (hu : w.ownsRow w0.heap.size 50 5 v s.units.length (uL s.units)) (hj : Truths w0 vj p.jam) (hx : Ext w0 w)
    (h0 : 0 < s.units.length) (h1 : 0 < p.jam.length) (lm : w0.heap.size ≤ mb) (lp : w0.heap.size ≤ pb) : MOw w0.heap.size w mb pb ub c p s vj := by
  have hlu := (hu.lt ub (by rw [hv]; rfl)).1
  subst hv
  refine ⟨hm, hp, ?_, Sl.ext hj hx, ?_, lm, lp, hlu⟩
  · rcases hu.2 with ⟨_, e⟩ | ⟨g, cap, cur, hv, _, hb, hc, hm, hs, ht⟩
    · omega
    · cases hv
      exact ⟨cur, hb, ⟨hc, hm, hs⟩, ht⟩
  · intro b hb
    obtain ⟨_, a, c', hv, _, hc⟩ := hj
    obtain ⟨bb, o, ha, hcell⟩ := hc (by simpa using h1)
    rw [hv, ha] at hb
    cases hb
    exact World.block_lt_of_cell? w0 ⟨bb, o + 0, none⟩ (hcell 0 (.bool p.jam[0]) (by simp))

set_option maxRecDepth 100000 in
theorem start_any (p : PressD) (s : StD) (vj vu : Value) (w : World) (hj : Truths w vj p.jam) (hu : UnIn w vu s.units) (hl : s.units.length ≤ 1000000) :
    Calls Try.prog 43 #[pV vj p, sV vu s] w (StartPost w p s vj) := by
  have hc := fun w1 (k : Ext w w1) => check_any p vj w1 (Sl.ext hj k)
  have hcl := fun w1 (k : Ext w w1) => clone_any s.units vu w1 (hu.ext k) hl
  have hl2 : s.units.length ≤ 9223372036854775807 := by omega
  obtain ⟨a, c, rfl, Hu⟩ := hu.form
  obtain ⟨_, aj, cj, hvj, _⟩ := id hj
  rw [List.length_map] at hvj
  obtain ⟨e1, he1⟩ : ∃ e, pErr p = e := ⟨_, rfl⟩
  rw [he1] at hc
  subst hvj
  have HC := Lib.hid hc
  have HCL := Lib.hid hcl
  have HL2 := Lib.hid hl2
  have HJ := Lib.hid hj
  clear hc hcl hl2 hj
  clear hl hu
  unfold pV sV at *
  by_cases h1 : e1 = 0
  · subst h1
    obtain ⟨b1, hb1⟩ : ∃ b, shapedD p s = b := ⟨_, rfl⟩
    obtain ⟨b2, hb2⟩ : ∃ b, safeD s = b := ⟨_, rfl⟩
    have hst : stErr p s = if b1 && b2 then 0 else 9 := by
      unfold stErr; rw [if_neg (by rw [he1]; simp), hb1, hb2]
    have hjl := (pErr_len he1).1
    have hsl := fun h => shaped_len (p := p) (s := s) h
    rw [hb1] at hsl
    have hsh := fun mb pb vu w1 (h : MSt w1 mb pb p s (.slice aj p.jam.length cj) vu) => mShaped mb pb p s _ vu w1 h
    have hsf := fun mb pb vu w1 (h : MSt w1 mb pb p s (.slice aj p.jam.length cj) vu) => mSafe mb pb p s _ vu w1 h
    rw [hb1] at hsh
    rw [hb2] at hsf
    have HST := Lib.hid hst
    have HSH := Lib.hid hsh
    have HSF := Lib.hid hsf
    have HJL := Lib.hid hjl
    have HSL := Lib.hid hsl
    clear hst hsh hsf hjl hsl
    clear he1 hb1 hb2
    go_enter Try.func43, Try.ntmps43
    go_upto_region 1 with (first
      | (with_reducible refine wpList_boxA (t := 32) (cs := #[.slice aj p.jam.length cj, .int .i64 p.warm, .int .i64 p.tail, .int .i64 p.dirt]) rfl rfl rfl ?_
         rintro pb w1 hx1 hx2 hx3
         have c1 := hx1.cell
         have hx3' : w.heap.size ≤ pb := hx3
         clear hx3
         have PB := Lib.hid hx1
         have X1 := Lib.hid hx2
         have LPB := Lib.hid hx3'
         clear hx1 hx2 hx3')
      | (with_reducible refine wpList_boxA (t := 36) (cs := #[.int .i64 s.drive, .bool s.folder, .slice a s.units.length c, .int .i64 s.fresh]) rfl rfl rfl ?_
         rintro sb w2 hy1 hy2 hy3
         have c2 := (PB.out.ext hy2).cell
         have c3 := hy1.cell
         have pb2 := PB.out.ext hy2
         have x2 := X1.out.tr hy2
         have l2 : w.heap.size ≤ sb := Nat.le_trans X1.out.size hy3
         clear c1 PB X1
         have SB := Lib.hid hy1
         have L2 := Lib.hid l2
         have PB := Lib.hid pb2
         have X1 := Lib.hid x2
         clear hy1 l2 pb2 x2
         clear hy3 hy2))
    go_upto_region 6 with (first
      | (have hgd := HC.out
         go_at_call 19
         refine (hgd _ X1.out).mono ?_
         rintro e w3 ⟨rfl, hx3⟩
         have d2 := (PB.out.ext hx3).cell
         have d3 := (SB.out.ext hx3).cell
         have pb2 := PB.out.ext hx3
         have sb2 := SB.out.ext hx3
         have x2 := X1.out.tr hx3
         clear c2 c3 PB SB X1 hgd hx3
         have c2 := d2
         have c3 := d3
         have PB := Lib.hid pb2
         have SB := Lib.hid sb2
         have X1 := Lib.hid x2
         clear pb2 sb2 x2
         clear d2 d3)
      | (have hgd := HCL.out
         go_at_call 65
         refine (hgd _ X1.out).mono ?_
         rintro e w4 ⟨v, rfl, hown, hx4⟩
         have d2 := (PB.out.ext hx4).cell
         have d3 := (SB.out.ext hx4).cell
         have pb2 := PB.out.ext hx4
         have sb2 := SB.out.ext hx4
         have x2 := X1.out.tr hx4
         have ho2 := owns_weak hown X1.out.size
         have hnb : ∀ b, v.ownBlock = some b → b ≠ sb := fun b hb e => by
           have h1 := (hown.lt b hb).1
           have h2 := SB.out.lt
           omega
         obtain ⟨a4, cc4, hv4⟩ := row_form hown
         subst hv4
         clear c2 c3 PB SB X1 hgd hx4 hown
         have c2 := d2
         have c3 := d3
         have PB := Lib.hid pb2
         have SB := Lib.hid sb2
         have X1 := Lib.hid x2
         have HOW := Lib.hid ho2
         have HNB := Lib.hid hnb
         clear pb2 sb2 x2 ho2 hnb
         clear d2 d3)
      | (with_reducible refine wpList_setK (b := sb) (i := 2) (v := .slice a4 s.units.length cc4) rfl rfl SB.out ?_ ?_ ?_ ?_ ?_ ?_ ?_
         · rfl
         · rfl
         · simp
         · kernel_rfl
         · rfl
         · rfl
         rintro w5 hb5 ho5
         have hps : pb ≠ sb := fun e => absurd (blk_ty PB.out (e ▸ SB.out)) (by decide)
         have pb2 := PB.out.only ho5 hps
         have d2 := pb2.cell
         have d3 := hb5.cell
         have x2 := X1.out.then_only ho5 (fun k (e : k = sb) => by rw [e]; exact L2.out)
         have ho2 := owns_only HOW.out ho5 HNB.out
         clear c2 c3 PB SB X1 HOW ho5 HNB
         have c2 := d2
         have c3 := d3
         have PB := Lib.hid pb2
         have SB := Lib.hid hb5
         have X1 := Lib.hid x2
         have HOW := Lib.hid ho2
         clear pb2 hb5 x2 ho2
         clear d2 d3)
      | (with_reducible refine wpList_boxA (t := 104) (cs := #[.pointer (some ⟨pb, 0, none⟩), .int .i64 s.drive, .bool s.folder, .slice a4 s.units.length cc4, .int .i64 s.fresh]) rfl rfl rfl ?_
         rintro mb w6 hx1 hx2 hx3
         have pb2 := PB.out.ext hx2
         have x2 := X1.out.tr hx2
         have ho2 := owns_ext HOW.out hx2
         have lm : w.heap.size ≤ mb := Nat.le_trans X1.out.size hx3
         have hms : MSt w6 mb pb p s (.slice aj p.jam.length cj) (.slice a4 s.units.length cc4) := ⟨hx1, pb2, UnIn.of_owns ho2 HL2.out, Sl.ext HJ.out x2⟩
         clear c2 c3 PB SB X1 HOW
         have PB := Lib.hid pb2
         have X1 := Lib.hid x2
         have HOW := Lib.hid ho2
         have MB := Lib.hid hx1
         have LM := Lib.hid lm
         have HMS := Lib.hid hms
         clear pb2 x2 ho2 hx1 lm hms
         clear hx2 hx3))
    have hsh := HSH.out mb pb _ _ HMS.out
    have hsf := fun w7 (k : Ext w6 w7) => HSF.out mb pb _ w7 (HMS.out.ext k)
    have SH := Lib.hid hsh
    have SF := Lib.hid hsf
    clear hsh hsf
    clear HSH HSF HC HCL
    cases b1
    · go_wp2_with (
        go_at_call 48
        refine SH.out.mono ?_
        rintro e w7 ⟨rfl, hx7⟩
        have x2 := X1.out.tr hx7
        clear X1
        have X1 := Lib.hid x2
        clear x2)
      refine bodyPost_ret (v := .tuple #[.pointer none, .int .i64 9]) (by simp [results, Try.results43, go_sem]) rfl ?_
      have h9 : stErr p s = 9 := by rw [HST.out]; rfl
      exact .inl ⟨by rw [h9]; decide, by rw [h9], X1.out⟩
    · cases b2
      · go_wp2_with (first
          | (go_at_call 48
             refine SH.out.mono ?_
             rintro e w7 ⟨rfl, hx7⟩
             have x2 := X1.out.tr hx7
             have sf := SF.out w7 hx7
             clear X1 SF SH hx7
             have X1 := Lib.hid x2
             have SF := Lib.hid sf
             clear x2 sf)
          | (go_at_call 49
             refine SF.out.mono ?_
             rintro e w8 ⟨rfl, hx8⟩
             have x2 := X1.out.tr hx8
             clear X1 SF hx8
             have X1 := Lib.hid x2
             clear x2))
        refine bodyPost_ret (v := .tuple #[.pointer none, .int .i64 9]) (by simp [results, Try.results43, go_sem]) rfl ?_
        have h9 : stErr p s = 9 := by rw [HST.out]; rfl
        exact .inl ⟨by rw [h9]; decide, by rw [h9], X1.out⟩
      · go_wp2_with (first
          | (go_at_call 48
             refine SH.out.mono ?_
             rintro e w7 ⟨rfl, hx7⟩
             have x2 := X1.out.tr hx7
             have sf := SF.out w7 hx7
             have ho2 := owns_ext HOW.out hx7
             have mb2 := MB.out.ext hx7
             have pb2 := PB.out.ext hx7
             clear X1 SF SH hx7 HOW MB PB
             have X1 := Lib.hid x2
             have SF := Lib.hid sf
             have HOW := Lib.hid ho2
             have MB := Lib.hid mb2
             have PB := Lib.hid pb2
             clear x2 sf ho2 mb2 pb2)
          | (go_at_call 49
             refine SF.out.mono ?_
             rintro e w8 ⟨rfl, hx8⟩
             have x2 := X1.out.tr hx8
             have ho2 := owns_ext HOW.out hx8
             have mb2 := MB.out.ext hx8
             have pb2 := PB.out.ext hx8
             clear X1 SF hx8 HOW MB PB
             have X1 := Lib.hid x2
             have HOW := Lib.hid ho2
             have MB := Lib.hid mb2
             have PB := Lib.hid pb2
             clear x2 ho2 mb2 pb2))
        refine bodyPost_ret (v := .tuple #[.pointer (some ⟨mb, 0, none⟩), .int .i64 0]) (by simp [results, Try.results43, go_sem]) rfl ?_
        have h9 : stErr p s = 0 := by rw [HST.out]; rfl
        have hul : 0 < s.units.length := by rw [HSL.out (by simp)]; exact HJL.out
        obtain ⟨ub, c4, hv4⟩ := row_pos HOW.out hul
        exact .inr ⟨h9, mb, pb, ub, c4, rfl, MOw.mk' hv4 MB.out PB.out HOW.out HJ.out X1.out hul HJL.out LM.out LPB.out, X1.out⟩
  · have hst : stErr p s = e1 := by unfold stErr; rw [if_pos (by rw [he1]; exact h1), he1]
    have f1 : (e1 != 0) = true := by simp [h1]
    have HST := Lib.hid hst
    have H1 := Lib.hid h1
    clear hst h1
    clear he1
    go_enter Try.func43, Try.ntmps43
    go_upto_region 1 with (first
      | (with_reducible refine wpList_boxA (t := 32) (cs := #[.slice aj p.jam.length cj, .int .i64 p.warm, .int .i64 p.tail, .int .i64 p.dirt]) rfl rfl rfl ?_
         rintro pb w1 hx1 hx2 hx3
         have c1 := hx1.cell
         have hx3' : w.heap.size ≤ pb := hx3
         clear hx3
         have PB := Lib.hid hx1
         have X1 := Lib.hid hx2
         have LPB := Lib.hid hx3'
         clear hx1 hx2 hx3')
      | (with_reducible refine wpList_boxA (t := 36) (cs := #[.int .i64 s.drive, .bool s.folder, .slice a s.units.length c, .int .i64 s.fresh]) rfl rfl rfl ?_
         rintro sb w2 hy1 hy2 hy3
         have c2 := (PB.out.ext hy2).cell
         have c3 := hy1.cell
         have pb2 := PB.out.ext hy2
         have x2 := X1.out.tr hy2
         have l2 : w.heap.size ≤ sb := Nat.le_trans X1.out.size hy3
         clear c1 PB X1
         have SB := Lib.hid hy1
         have L2 := Lib.hid l2
         have PB := Lib.hid pb2
         have X1 := Lib.hid x2
         clear hy1 l2 pb2 x2
         clear hy3 hy2))
    go_wp2_with (
         have hgd := HC.out
         go_at_call 19
         refine (hgd _ X1.out).mono ?_
         rintro e w3 ⟨rfl, hx3⟩
         have x2 := X1.out.tr hx3
         clear c2 c3 PB SB X1 hgd hx3
         have X1 := Lib.hid x2
         clear x2)
    refine bodyPost_ret (v := .tuple #[.pointer none, .int .i64 e1]) (by simp [results, Try.results43, go_sem]) rfl ?_
    exact .inl ⟨by rw [HST.out]; exact H1.out, by rw [HST.out], X1.out⟩
end Go.Proofs.Ytojobdffnnibaaa
