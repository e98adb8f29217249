/- RegisterDesks: the statement's function. -/
import Derived.Test.YtafnadaahnkcmaaDkC
import Derived.Test.YtafnadaahnkcmaaAwake
namespace Go.Proofs.Ytafnadaahnkcmaa
open Go.RowKit
set_option linter.unusedVariables false
set_option linter.unusedSimpArgs false

set_option maxRecDepth 100000 in
set_option maxHeartbeats 8000000 in
theorem desks_true (pat : List Int) (l : List Loop) (win limit : Int) (rs : List (List Int)) (vp vl vr : Value) (w : World) (hp : Ints w vp pat) (hpb : ∀ x ∈ pat, I64 x) (hl : LoopsIn w vl l) (hlb : ∀ x ∈ l, I64 x.dead ∧ I64 x.noise ∧ I64 x.blur ∧ I64 x.step) (hw : I64 win) (hlm : I64 limit)
    (hr : RowsIn w vr rs) (hrb : ∀ r ∈ rs, ∀ x ∈ r, I64 x) :
    Calls Try.prog 8 #[vp, vl, .int .i64 win, .int .i64 limit, vr] w fun e w' => e = .returned (.bool true) ∧ Ext w w' := by
  obtain ⟨ap, cp, rfl, HP⟩ := hp.form
  obtain ⟨hll, al, cl, rfl, hlc⟩ := hl
  obtain ⟨ar, cr, rfl, hrc⟩ := hr
  have HL : Hid (LoopsIn w (.slice al l.length cl) l) := ⟨hll, al, cl, rfl, hlc⟩
  have HPB := Lib.hid hpb
  have HLB := Lib.hid hlb
  have HW := Lib.hid hw
  have HLM := Lib.hid hlm
  have HRC := Lib.hid hrc
  have HRB := Lib.hid hrb
  clear hpb hlb hw hlm hrc hrb
  clear hp hlc hll
  go_enter Try.func8, Try.ntmps8
  by_cases b1 : 20 < pat.length
  · skip
    as_aux_lemma =>
      have e1 : decide ((20:Int) < (pat.length:Int)) = true := decide_eq_true (by omega)
      clear b1
      go_wp2_with (go_at_call 9; refine (awake_true _).mono ?_; rintro x w6 ⟨rfl, hx6⟩; have HX6 := Lib.hid hx6; clear hx6)
      go_ret
      exact ⟨rfl, HX6.out⟩
  have e1 : decide ((20:Int) < (pat.length:Int)) = false := decide_eq_false (by omega)
  by_cases b2 : 20 < l.length
  · skip
    as_aux_lemma =>
      have e2 : decide ((20:Int) < (l.length:Int)) = true := decide_eq_true (by omega)
      clear b1 b2
      go_wp2_with (go_at_call 9; refine (awake_true _).mono ?_; rintro x w6 ⟨rfl, hx6⟩; have HX6 := Lib.hid hx6; clear hx6)
      go_ret
      exact ⟨rfl, HX6.out⟩
  have e2 : decide ((20:Int) < (l.length:Int)) = false := decide_eq_false (by omega)
  by_cases b3 : 10 < rs.length
  · skip
    as_aux_lemma =>
      have e3 : decide ((10:Int) < (rs.length:Int)) = true := decide_eq_true (by omega)
      clear b1 b2 b3
      go_wp2_with (go_at_call 9; refine (awake_true _).mono ?_; rintro x w6 ⟨rfl, hx6⟩; have HX6 := Lib.hid hx6; clear hx6)
      go_ret
      exact ⟨rfl, HX6.out⟩
  have e3 : decide ((10:Int) < (rs.length:Int)) = false := decide_eq_false (by omega)
  obtain ⟨er, her⟩ : ∃ er, er = newErr pat l win limit := ⟨_, rfl⟩
  go_upto_region 4 with (first
    | (go_at_call 10
       refine (copyInts_any pat _ w HP.out (by omega)).mono ?_
       rintro e w1 ⟨v1, rfl, hx1, ho1⟩
       obtain ⟨a1, c1, rfl⟩ := owns_form ho1
       have X1 := Lib.hid hx1
       have O1 := Lib.hid ho1
       clear hx1 ho1)
    | (go_at_call 24
       refine (loops_any l _ w1 (HL.out.ext X1.out) (by omega)).mono ?_
       rintro e w2 ⟨v2, rfl, ho2, hx2⟩
       obtain ⟨a2, c2, rfl⟩ := owns_form ho2
       have o12 := owns_ext O1.out hx2
       have x2 := X1.out.tr hx2
       have hs1 : w.heap.size ≤ w1.heap.size := X1.out.size
       have O12 := Lib.hid o12
       have X2 := Lib.hid x2
       have O2 := Lib.hid ho2
       clear o12 x2 ho2
       clear hx2))
  have hn := new_any pat l win limit _ _ w2 (Sl.of_owns O12.out) HPB.out HW.out HLM.out (LoopsIn.of_owns O2.out (by omega)) (by omega)
  clear e1 e2 e3
  by_cases h0 : er = 0
  · have HN : Hid (Calls Try.prog 20 #[.slice a1 pat.length c1, .slice a2 l.length c2, .int .i64 win, .int .i64 limit] w2 fun e w' => ∃ db m ρ, e = .returned (.tuple #[.pointer (some ⟨db, 0, none⟩), .int .i64 0]) ∧ DSt w' db (newD pat l win limit) m ρ ∧ (∀ k, k < w2.heap.size → ρ k = 0) ∧ Ext w2 w') := hn.mono fun e w' h => by
      rcases h with ⟨h1, _⟩ | ⟨_, db, m, ρ, h2⟩
      · exact (h1 (her.symm.trans h0)).elim
      · exact ⟨db, m, ρ, h2⟩
    have hz : newErr pat l win limit = 0 := her.symm.trans h0
    have HZ := Lib.hid hz
    clear hn her h0 hz
    go_upto_region 6 with (first
      | (go_at_call 20
         refine HN.out.mono ?_
         rintro e w3 ⟨db, m, ρ, rfl, hd3, hρ, hx3⟩
         have x3 := X2.out.tr hx3
         have hs2 : w2.heap.size ≤ w3.heap.size := hx3.size
         have o13 := owns_ext O12.out hx3
         have o23 := owns_ext O2.out hx3
         have hlw : ∀ b, ρ b ≠ 0 → w2.heap.size ≤ b := fun b hb => Nat.le_of_not_lt fun h => hb (hρ b h)
         have D3 := Lib.hid hd3
         have RHO := Lib.hid hρ
         have X3 := Lib.hid x3
         have O13 := Lib.hid o13
         have O23 := Lib.hid o23
         have HLW := Lib.hid hlw
         clear hd3 hρ x3 o13 o23 hlw
         clear hx3 HN)
      | (go_at_call 25
         refine (refNew_any pat l win limit _ _ w3 (HP.out.ext X3.out) HPB.out HW.out HLM.out (HL.out.ext X3.out) HLB.out (by omega) (by omega)).mono ?_
         rintro e w4 ⟨q1, q2, q3, q4, q5, q6, q7, q8, rfl, hq, hx4⟩
         obtain ⟨hqa, hqb, hqc, hqd⟩ := hq HZ.out
         rw [hqa, hqb, hqc, hqd, HZ.out]
         unfold refD nilS
         clear hqa hqb hqc hqd hq
         have x34 := hx4
         have X34 := Lib.hid x34
         clear x34
         clear hx4)
      | (with_reducible refine wpList_allocA (t := 71) rfl rfl Try.zeroValue71 ?_
         rintro tb w5 hb5 hx5 hl5
         have x35 := X34.out.tr hx5
         have htb3 : w3.heap.size ≤ tb := Nat.le_trans X34.out.size hl5
         have TB := Lib.hid hb5
         have X35 := Lib.hid x35
         clear hb5 x35
         clear hl5 hx5 X34)
      | (with_reducible refine wpList_storeK (ty := 71) (cells := #[.slice ap pat.length cp, .slice al l.length cl, .int .i64 win, .int .i64 limit, .slice none 0 0]) rfl rfl TB.out ?_ ?_ ?_ ?_ ?_ ?_
         · rfl
         · rfl
         · kernel_rfl
         · rfl
         · simp [Value.oneCell']
         rintro w6 hb6 ho6
         have x36 : Ext w3 w6 := X35.out.then_only ho6 (fun k (e : k = tb) => by omega)
         have hlow : ∀ b, ρ b ≠ 0 → w.heap.size ≤ b := fun b hb => by have := HLW.out b hb; have := X2.out.size; omega
         have hinv : DkInv (fun _ => False) w w6 db tb (.slice ap pat.length cp) (.slice al l.length cl) (.slice none 0 0) (newD pat l win limit) m ρ :=
           { ext := X3.out.tr x36, st := D3.out.ext x36, low := hlow, dk := DkOk.new HZ.out, hp := HP.out, hl := HL.out, tbk := hb6,
             tb0 := Decidable.byContradiction fun h => by have := D3.out.hlt tb h; omega, tbl := by have := X3.out.size; omega, cps := CpsIn.nil _ _, r := fun b hb => hb.elim }
         have hpx : ∀ b, (Value.slice a1 pat.length c1).ownBlock = some b ∨ (Value.slice a2 l.length c2).ownBlock = some b → w.heap.size ≤ b ∧ ρ b = 0 ∧ b ≠ tb := fun b hb => by
           rcases hb with hb | hb
           · have h1 := O12.out.lt b hb; exact ⟨by omega, RHO.out b h1.2, by omega⟩
           · have h1 := O2.out.lt b hb; exact ⟨by omega, RHO.out b h1.2, by omega⟩
         have hr1 := Room.of_owns (owns_ext O13.out x36)
         have hr2 := Room.of_owns (owns_ext O23.out x36)
         have hp6 := HP.out.ext (X3.out.tr x36)
         have o16 := owns_ext O13.out x36
         have INV := Lib.hid hinv
         have HPX := Lib.hid hpx
         have RM1 := Lib.hid hr1
         have RM2 := Lib.hid hr2
         have HP6 := Lib.hid hp6
         have O16 := Lib.hid o16
         clear hinv hpx hr1 hr2 hp6 o16
         clear ho6 hb6 hlow x36 TB X35))
    go_upto_region 10 with (
      go_at_call 13
      refine (sameInts_true pat _ _ w6 (Sl.of_owns O16.out) HP6.out).mono ?_
      rintro e w7 ⟨rfl, hx7⟩
      have i7 := INV.out.ext1 hx7
      have r17 := RM1.out.ext hx7
      have r27 := RM2.out.ext hx7
      clear INV RM1 RM2
      have INV := Lib.hid i7
      have RM1 := Lib.hid r17
      have RM2 := Lib.hid r27
      clear i7 r17 r27
      clear hx7)
    go_wp2
    go_loopw [17] (fun t wr => ∃ k : Nat, k ≤ pat.length ∧ t = .int .i64 k ∧ Hid (DkInv (fun _ => False) w wr db tb (.slice ap pat.length cp) (.slice al l.length cl) (.slice none 0 0) (newD pat l win limit) m ρ) ∧ Hid (Room wr (.slice a1 pat.length c1) pat.length 1) ∧ Hid (Room wr (.slice a2 l.length c2) l.length 4)) (fun t _ => pat.length - (intOf t).toNat)
    case atStart => exact ⟨0, Nat.zero_le _, rfl, INV.out, RM1.out, RM2.out⟩
    case round =>
      obtain ⟨k, hk, rfl, IN2, RA, RB⟩ := hrel
      clear INV RM1 RM2
      by_cases hlt : k < pat.length
      · skip
        as_aux_lemma =>
          obtain ⟨g, c, cs, t, hv, hb, hn⟩ := RA.out.resolve_left (by omega)
          cases hv
          have hg := HPX.out g (.inl rfl)
          have HB := Lib.hid hb
          have HG := Lib.hid hg
          clear hb hg
          go_wp2_with (
            with_reducible refine wpList_setK (b := g) (i := k) (v := .int .i64 0) rfl rfl HB.out ?_ ?_ ?_ ?_ ?_ ?_ ?_
            · rfl
            · rfl
            · omega
            · kernel_rfl
            · rfl
            · simp [Value.oneCell']
            rintro wx hbx hox
            have hsz : (cs.setIfInBounds k (.int .i64 0)).size = cs.size := by simp
            have ra := RA.out.put HB.out hbx hsz hox
            have rb := RB.out.put HB.out hbx hsz hox
            have i2 := IN2.out.only hox (fun b (e : b = g) => by rw [e]; exact ⟨HG.out.1, HG.out.2.1, HG.out.2.2, fun h => h⟩)
            have RA2 := Lib.hid ra
            have RB2 := Lib.hid rb
            have IN3 := Lib.hid i2
            clear ra rb i2
            clear hbx hox hsz)
          go_roundw
          case rel => exact ⟨k + 1, by omega, by go_num, IN3.out, RA2.out, RB2.out⟩
          case measure => first | (simp [intOf]; done) | (simp [intOf]; omega)
      · obtain rfl : k = pat.length := by omega
        as_aux_lemma =>
          obtain ⟨wo, rfl⟩ : ∃ W, W = wr := ⟨wr, rfl⟩
          clear hlt
          go_wp2
          go_loopw [18] (fun t wr => ∃ k : Nat, k ≤ l.length ∧ t = .int .i64 k ∧ Hid (DkInv (fun _ => False) w wr db tb (.slice ap pat.length cp) (.slice al l.length cl) (.slice none 0 0) (newD pat l win limit) m ρ) ∧ Hid (Room wr (.slice a2 l.length c2) l.length 4)) (fun t _ => l.length - (intOf t).toNat)
          case atStart => exact ⟨0, Nat.zero_le _, rfl, IN2.out, RB.out⟩
          case round =>
            obtain ⟨k, hk, rfl, IN4, RC⟩ := hrel
            clear IN2 RB RA
            by_cases hlt : k < l.length
            · skip
              as_aux_lemma =>
                obtain ⟨g, c, cs, t, hv, hb, hn⟩ := RC.out.resolve_left (by omega)
                cases hv
                have hg := HPX.out g (.inr rfl)
                have h4 : k * 4 + 4 ≤ cs.size := by omega
                have HB := Lib.hid hb
                have HG := Lib.hid hg
                clear hb hg
                go_wp2_with (
                  with_reducible refine wpList_set4 (b := g) (i := k * 4) (v0 := .int .i64 0) (v1 := .int .i64 0) (v2 := .int .i64 0) (v3 := .int .i64 0) rfl rfl HB.out ?_ ?_ ?_ ?_ ?_ ?_
                  · go_simp
                  · rfl
                  · omega
                  · kernel_rfl
                  · simp [Value.oneCell']
                  rintro wx cs2 hbx hsz hox
                  have rb := RC.out.put HB.out hbx hsz hox
                  have i2 := IN4.out.only hox (fun b (e : b = g) => by rw [e]; exact ⟨HG.out.1, HG.out.2.1, HG.out.2.2, fun h => h⟩)
                  have RC2 := Lib.hid rb
                  have IN3 := Lib.hid i2
                  clear rb i2
                  clear hbx hox hsz)
                go_roundw
                case rel => exact ⟨k + 1, by omega, by go_num, IN3.out, RC2.out⟩
                case measure => first | (simp [intOf]; done) | (simp [intOf]; omega)
            · obtain rfl : k = l.length := by omega
              as_aux_lemma =>
                obtain ⟨wo2, rfl⟩ : ∃ W, W = wr := ⟨wr, rfl⟩
                clear hlt RC HPX
                go_wp2
                go_loopw [19, 20] (fun v t wr => ∃ (i : Nat) (d : DeskD) (m : DMem) (ρ : Nat → Nat) (vc : Value) (R : Nat → Prop), i ≤ rs.length ∧ t = .int .i64 i ∧ d.copies.length ≤ i ∧ Hid (v = .int .i64 (wst d)) ∧ Hid (DkInv R w wr db tb (.slice ap pat.length cp) (.slice al l.length cl) vc d m ρ)) (fun _ t _ => rs.length - (intOf t).toNat)
                case atStart => exact ⟨0, newD pat l win limit, m, ρ, .slice none 0 0, fun _ => False, Nat.zero_le _, rfl, Nat.le_refl _, rfl, IN4.out⟩
                case round =>
                  obtain ⟨i, d, m2, ρ2, vc, R, hi, rfl, hdl, HV, IN5⟩ := hrel
                  have hv := HV.out
                  subst hv
                  obtain ⟨wn, hwn⟩ : ∃ n, n = wst d := ⟨_, rfl⟩
                  have hwl : wn ≤ d.copies.length := by rw [hwn]; exact wasteN_le _ _
                  rw [← hwn]
                  have HWN := Lib.hid hwn
                  clear hwn
                  clear IN4 HV
                  by_cases hlt : i < rs.length
                  · skip
                    as_aux_lemma =>
                      obtain ⟨rb, ro, rfl, hrows⟩ := HRC.out (by omega)
                      obtain ⟨a3, c3, hrc1, hri⟩ := hrows i hlt
                      obtain ⟨seen, hseen⟩ : ∃ s, s = rs[i] := ⟨_, rfl⟩
                      rw [← hseen] at hrc1 hri
                      have hsb : ∀ x ∈ seen, I64 x := HRB.out seen (by rw [hseen]; exact List.getElem_mem _)
                      have k1 := IN5.out.ext.cellSome hrc1
                      have HR1 := Lib.hid hrc1
                      have HRI := Lib.hid hri
                      have HSB := Lib.hid hsb
                      clear hrc1 hri hsb
                      clear hrows hseen
                      by_cases hbig : 60 < seen.length
                      · have e1 : decide ((60:Int) < (seen.length:Int)) = true := decide_eq_true (by omega)
                        clear hbig
                        go_wp2
                        go_roundw
                        case rel => exact ⟨i + 1, d, m2, ρ2, vc, R, by omega, by go_num, by omega, by rw [← HWN.out]; exact rfl, IN5.out⟩
                        case measure => first | (simp [intOf]; done) | (simp [intOf]; omega)
                      · have e1 : decide ((60:Int) < (seen.length:Int)) = false := decide_eq_false (by omega)
                        as_aux_lemma =>
                          obtain ⟨og, hog⟩ : ∃ g, g = (oC d seen).good := ⟨_, rfl⟩
                          obtain ⟨os, hos⟩ : ∃ g, g = (oC d seen).shift := ⟨_, rfl⟩
                          obtain ⟨oe, hoe⟩ : ∃ g, g = oE d seen := ⟨_, rfl⟩
                          obtain ⟨ne, hne⟩ : ∃ n, n = (oC d seen).errs.length := ⟨_, rfl⟩
                          obtain ⟨nm, hnm⟩ : ∃ n, n = (oC d seen).moves.length := ⟨_, rfl⟩
                          obtain ⟨n7, hn7⟩ : ∃ n, n = (oD d seen).copies.length := ⟨_, rfl⟩
                          have hnn : ne = nm := by rw [hne, hnm]; exact (oC_len d seen).1
                          have hzr : ∀ b, ρ2 b ≠ 0 → b < wr.heap.size := IN5.out.st.hlt
                          have h60 : seen.length ≤ 60 := by omega
                          have HN7 := Lib.hid hn7
                          have HOG := Lib.hid hog
                          have HOS := Lib.hid hos
                          have HOE := Lib.hid hoe
                          have HNE := Lib.hid hne
                          have HNM := Lib.hid hnm
                          have HNN := Lib.hid hnn
                          have HZR := Lib.hid hzr
                          clear hn7 hog hos hoe hne hnm hnn hzr
                          clear hbig
                          go_upto_region 25 with (first
                            | (go_at_call 10
                               refine (copyInts_any seen _ wr (HRI.out.ext IN5.out.ext) (by omega)).mono ?_
                               rintro e w1 ⟨v5, rfl, hx1, ho1⟩
                               obtain ⟨a5, c5, rfl⟩ := owns_form ho1
                               have in1 := IN5.out.ext1 hx1
                               have IN6 := Lib.hid in1
                               have OW := Lib.hid ho1
                               clear in1 ho1
                               clear hx1 k1)
                            | (go_at_call 21
                               refine (read_any db d m2 ρ2 seen a5 c5 w1 IN6.out.st IN6.out.dk.ok (Sl.of_owns OW.out) HSB.out (by omega)).mono ?_
                               rintro e w2 hpost
                               have honly := hpost.only
                               have ow2 : Ints w2 (.slice a5 seen.length c5) seen := Ints.only (Sl.of_owns OW.out) honly fun b hb hn => by have := (OW.out.lt b hb).1; have := HZR.out b hn; omega
                               obtain ⟨ve, vm, m3, ρ3, rfl, hmid⟩ := IN6.out.read hpost
                               obtain ⟨ae, ce, hve⟩ := owns_form hmid.re
                               obtain ⟨am, cm, hvm⟩ := owns_form hmid.rm
                               rw [← HNE.out] at hve
                               rw [← HNM.out] at hvm
                               rw [hve, hvm] at hmid
                               rw [hve, hvm, ← HOG.out, ← HOS.out, ← HOE.out]
                               unfold cpV
                               have htb2 : tb < w2.heap.size := hmid.tbk.lt
                               have hvb : ∀ b, (Value.slice ae ne ce).ownBlock = some b ∨ (Value.slice am nm cm).ownBlock = some b → b < w2.heap.size := fun b hb => by
                                 rcases hb with hb | hb
                                 · exact (hmid.re.lt b hb).2
                                 · exact (hmid.rm.lt b hb).2
                               have HVB := Lib.hid hvb
                               clear hvb
                               have hzw : w1.heap.size ≤ w2.heap.size := honly.size
                               have MID := Lib.hid hmid
                               have OW2 := Lib.hid ow2
                               clear hmid ow2
                               clear hpost honly hve hvm)
                            | (with_reducible refine wpList_allocA (t := 59) rfl rfl Try.zeroValue59 ?_
                               rintro cb w3 hb3 hx3 hl3
                               have hcb2 : w2.heap.size ≤ cb := hl3
                               have CB := Lib.hid hb3
                               have X23 := Lib.hid hx3
                               clear hb3 hx3
                               clear hl3)
                            | (with_reducible refine wpList_storeK (ty := 59) (cells := #[.bool og, .int .i64 os, .slice ae ne ce, .slice am nm cm]) rfl rfl CB.out ?_ ?_ ?_ ?_ ?_ ?_
                               · rfl
                               · rfl
                               · kernel_rfl
                               · rfl
                               · simp [Value.oneCell']
                               rintro w4 hb4 ho4
                               have x24 : Ext w2 w4 := X23.out.then_only ho4 (fun k (e : k = cb) => by omega)
                               have md4 := MID.out.ext1 x24
                               have ow4 := OW2.out.ext x24
                               clear CB X23 MID OW2
                               have CB := Lib.hid hb4
                               have MID := Lib.hid md4
                               have OW4 := Lib.hid ow4
                               clear hb4 md4 ow4
                               clear ho4 x24))
                          go_cut [24, 25, 26] (fun s24 s25 s26 W => ∃ (b4 b5 : Nat) (ae' : Option Addr) (ce' : Nat) (am' : Option Addr) (cm' : Nat) (a7 : Option Addr) (c7 : Nat) (R' : Nat → Prop), s24 = .pointer (some ⟨b4, 0, none⟩) ∧ s25 = .pointer (some ⟨b5, 0, none⟩) ∧ s26 = .int .i64 oe ∧
                            Hid (RdMid R' w W db tb (.slice ap pat.length cp) (.slice al l.length cl) vc d (oD d seen) m3 ρ3 (.slice a7 n7 c7) (oD d seen).copies (oC d seen) (.slice ae ne ce) (.slice am nm cm)) ∧
                            Hid (Blk W b4 #[.slice ap pat.length cp, .slice al l.length cl, .int .i64 d.win, .int .i64 d.limit, .slice a7 n7 c7] 71) ∧ Hid (Blk W b5 #[.bool og, .int .i64 os, .slice ae' ne ce', .slice am' nm cm'] 74) ∧
                            Hid (Ints W (.slice ae' ne ce') (oC d seen).errs ∧ Ints W (.slice am' nm cm') (oC d seen).moves) ∧ Hid (Ext w4 W))
                          case first =>
                            as_aux_lemma =>
                              have hlw4 : w.heap.size ≤ w4.heap.size := MID.out.ext.size
                              have K4 := Lib.hid (MID.out.ext.cellSome HR1.out)
                              have hrr : ∀ W, Ext w4 W → Calls Try.prog 26 #[.agg #[.slice ap pat.length cp, .slice al l.length cl, .int .i64 d.win, .int .i64 d.limit, vc], .slice a3 seen.length c3] W fun e W' => ∃ (RN : Nat → Prop) (ae' : Option Addr) (ce' : Nat) (am' : Option Addr) (cm' : Nat) (a7 : Option Addr) (c7 : Nat), e = .returned (.tuple #[.agg #[.slice ap pat.length cp, .slice al l.length cl, .int .i64 d.win, .int .i64 d.limit, .slice a7 n7 c7], .agg #[.bool og, .int .i64 os, .slice ae' ne ce', .slice am' nm cm'], .int .i64 oe]) ∧
                                  Hid (Ints W' (.slice ae' ne ce') (oC d seen).errs ∧ Ints W' (.slice am' nm cm') (oC d seen).moves) ∧ Ext W W' ∧ Hid (CpsIn (fun b => R b ∨ RN b) W' (.slice a7 n7 c7) (oD d seen).copies) ∧ (∀ b, RN b → W.heap.size ≤ b ∧ b < W'.heap.size) ∧ Hid (∀ b, (Value.slice ae' ne ce').ownBlock = some b ∨ (Value.slice am' nm cm').ownBlock = some b → RN b) := fun W hW => by
                                have xw := MID.out.ext.tr hW
                                have hcW := MID.out.cps.ext hW
                                refine (refRead_any R d _ _ vc seen a3 c3 W IN5.out.dk.ok IN5.out.dk.q (IN5.out.hp.ext xw) (IN5.out.hl.ext xw) hcW (HRI.out.ext xw) HSB.out (by omega) (fun j hj => (IN5.out.dk.ml j hj).1) IN5.out.dk.mb).mono fun e W' hp => ?_
                                obtain ⟨ve', vm', vr', h1, h2, h3, h4, h5, h6⟩ := hp.any hcW
                                obtain ⟨ae', ce', hve, _⟩ := h2.form
                                obtain ⟨am', cm', hvm, _⟩ := h3.form
                                obtain ⟨a7, c7, hvr⟩ := h5.form
                                rw [← HNE.out] at hve
                                rw [← HNM.out] at hvm
                                rw [← HN7.out] at hvr
                                subst hve hvm hvr
                                refine ⟨fun b => W.heap.size ≤ b ∧ b < W'.heap.size, ae', ce', am', cm', a7, c7, ?_, ⟨h2, h3⟩, h4, h5, fun b hb => hb, h6⟩
                                rw [h1, HOG.out, HOS.out, HOE.out]
                                rfl
                              have HRR := Lib.hid hrr
                              clear hrr
                              obtain ⟨avc, cvc, hvc⟩ := MID.out.cps.form
                              subst hvc
                              have TBK := Lib.hid MID.out.tbk
                              have XC := Lib.hid (Ext.of_drewN w4 1)
                              refine wp_region_K (fun wx => (∀ i, wx.cell? ⟨tb, i, none⟩ = (#[.slice ap pat.length cp, .slice al l.length cl, .int .i64 d.win, .int .i64 d.limit, .slice avc d.copies.length cvc] : Array Value)[i]?) ∧ wx.cell? ⟨rb, ro + i, none⟩ = some (.slice a3 seen.length c3)) 14 (by kernel_rfl) ⟨(TBK.out.ext XC.out).cell, XC.out.cellSome K4.out⟩ (fun hHeld => ?_)
                              have XC : Hid (Ext w4 w4.drew) := Ext.of_drewN w4 1
                              generalize w4.drew = wA at *
                              refine wpAnyK_takeL (i := 1) (v := ?_) rfl (by kernel_rfl) (by kernel_rfl) (by kernel_rfl) (by kernel_rfl) (fun _ _ _ h => h) (Or.inl ⟨by rfl, ?_⟩) hHeld ?_
                              rotate_left
                              · intro w hSw; (try dsimp only at hSw); go_simp; (try with_reducible rfl)
                              try simp only [Act.put, List.setIfInBounds_toArray, List.set_cons_zero, List.set_cons_succ]
                              refine wpAnyK_takeL (i := 2) (v := ?_) rfl (by kernel_rfl) (by kernel_rfl) (by kernel_rfl) (by kernel_rfl) (fun _ _ _ h => h) (Or.inl ⟨by rfl, ?_⟩) hHeld ?_
                              rotate_left
                              · intro w hSw; (try dsimp only at hSw); go_simp; (try with_reducible rfl)
                              try simp only [Act.put, List.setIfInBounds_toArray, List.set_cons_zero, List.set_cons_succ]
                              refine wpAnyK_takeL (i := 0) (v := ?_) rfl (by kernel_rfl) (by kernel_rfl) (by kernel_rfl) (by kernel_rfl) (fun _ _ _ h => h) (Or.inl ⟨by rfl, ?_⟩) hHeld ?_
                              rotate_left
                              · intro w hSw; (try dsimp only at hSw); go_simp; (try with_reducible rfl)
                              try simp only [Act.put, List.setIfInBounds_toArray, List.set_cons_zero, List.set_cons_succ]
                              refine wpAnyK_takeL (i := 3) (v := ?_) rfl (by kernel_rfl) (by kernel_rfl) (by kernel_rfl) (by kernel_rfl) (fun _ _ _ h => h) (Or.inl ⟨by rfl, ?_⟩) hHeld ?_
                              rotate_left
                              · intro w hSw; (try dsimp only at hSw); go_simp; (try with_reducible rfl)
                              try simp only [Act.put, List.setIfInBounds_toArray, List.set_cons_zero, List.set_cons_succ]
                              refine wpAnyK_takeL (i := 4) (v := ?_) rfl (by kernel_rfl) (by kernel_rfl) (by kernel_rfl) (by kernel_rfl) (fun _ _ _ h => h) (Or.inl ⟨by rfl, ?_⟩) hHeld ?_
                              rotate_left
                              · intro w hSw; (try dsimp only at hSw); go_simp; (try with_reducible rfl)
                              try simp only [Act.put, List.setIfInBounds_toArray, List.set_cons_zero, List.set_cons_succ]
                              refine wpAnyK_ready (rs := [5, 10, 11]) (by kernel_rfl) (by simp) ?_
                              refine AllReadyK.consL (i := 5) rfl (fun K hK => ?_) ?_
                              · refine step_call (vs := #[.agg #[.slice ap pat.length cp, .slice al l.length cl, .int .i64 d.win, .int .i64 d.limit, .slice avc d.copies.length cvc], .slice a3 seen.length c3]) rfl rfl rfl Try.func26 (by kernel_rfl) (by kernel_rfl) (HRR.out _ XC.out) ?_
                                rintro e wy ⟨RN, ae', ce', am', cm', a7, c7, rfl, RI, hx, RC, hrn, RO⟩
                                refine ⟨_, rfl, ?_⟩
                                have rnl : ∀ b, RN b → w4.heap.size ≤ b ∧ b < wy.heap.size := fun b hb => ⟨Nat.le_trans XC.out.size (hrn b hb).1, (hrn b hb).2⟩
                                try (have n4 : ¬ RN b4 := fun hb => by have h1 := (hrn b4 hb).1; have h2 := A24.out.lt; omega
                                     have N4 := Lib.hid n4
                                     clear n4
                                     replace A24 := Lib.hid (A24.out.ext hx))
                                try (have n5 : ¬ RN b5 := fun hb => by have h1 := (hrn b5 hb).1; have h2 := A25.out.lt; omega
                                     have N5 := Lib.hid n5
                                     clear n5
                                     replace A25 := Lib.hid (A25.out.ext hx))
                                replace XC := Lib.hid (XC.out.tr hx)
                                have RNL := Lib.hid rnl
                                clear rnl hrn hx
                                refine hK.out _ _ (fun _ => ⟨(TBK.out.ext XC.out).cell, XC.out.cellSome K4.out⟩) (fun hHeld2 => ?_)
                                clear hK K
                                try clear hHeld
                                have hHeld := hHeld2 (by decide)
                                clear hHeld2
                                try simp only [Act.put, List.setIfInBounds_toArray, List.set_cons_zero, List.set_cons_succ]
                                refine wpAnyK_takeL (i := 6) (v := ?_) rfl (by kernel_rfl) (by kernel_rfl) (by kernel_rfl) (by kernel_rfl) (fun _ _ _ h => h) (Or.inl ⟨by rfl, ?_⟩) hHeld ?_
                                rotate_left
                                · intro w hSw; (try dsimp only at hSw); go_simp; (try with_reducible rfl)
                                try simp only [Act.put, List.setIfInBounds_toArray, List.set_cons_zero, List.set_cons_succ]
                                refine wpAnyK_takeL (i := 7) (v := ?_) rfl (by kernel_rfl) (by kernel_rfl) (by kernel_rfl) (by kernel_rfl) (fun _ _ _ h => h) (Or.inl ⟨by rfl, ?_⟩) hHeld ?_
                                rotate_left
                                · intro w hSw; (try dsimp only at hSw); go_simp; (try with_reducible rfl)
                                try simp only [Act.put, List.setIfInBounds_toArray, List.set_cons_zero, List.set_cons_succ]
                                refine wpAnyK_takeL (i := 8) (v := ?_) rfl (by kernel_rfl) (by kernel_rfl) (by kernel_rfl) (by kernel_rfl) (fun _ _ _ h => h) (Or.inl ⟨by rfl, ?_⟩) hHeld ?_
                                rotate_left
                                · intro w hSw; (try dsimp only at hSw); go_simp; (try with_reducible rfl)
                                try simp only [Act.put, List.setIfInBounds_toArray, List.set_cons_zero, List.set_cons_succ]
                                refine wpAnyK_takeL (i := 9) (v := ?_) rfl (by kernel_rfl) (by kernel_rfl) (by kernel_rfl) (by kernel_rfl) (fun _ _ _ h => h) (Or.inl ⟨by rfl, ?_⟩) hHeld ?_
                                rotate_left
                                · intro w hSw; (try dsimp only at hSw); go_simp; (try with_reducible rfl)
                                try simp only [Act.put, List.setIfInBounds_toArray, List.set_cons_zero, List.set_cons_succ]
                                refine wpAnyK_ready (rs := [10, 11]) (by kernel_rfl) (by simp) ?_
                                refine AllReadyK.consL (i := 10) rfl (fun K hK => ?_) ?_
                                · refine step_allocA (t := 71) rfl rfl Try.zeroValue71 ?_
                                  intro b4 wy hb hx hl
                                  have hl4 : w4.heap.size ≤ b4 := Nat.le_trans XC.out.size hl
                                  try (have n4 : ¬ RN b4 := fun hb2 => by have h1 := (RNL.out b4 hb2).2; omega
                                       have N4 := Lib.hid n4
                                       clear n4
                                       have rnl : ∀ b, RN b → w4.heap.size ≤ b ∧ b < wy.heap.size := fun b hb => ⟨(RNL.out b hb).1, Nat.lt_of_lt_of_le (RNL.out b hb).2 hx.size⟩
                                       replace RNL := Lib.hid rnl
                                       clear rnl
                                       have ri := And.intro (RI.out.1.ext hx) (RI.out.2.ext hx)
                                       replace RI := Lib.hid ri
                                       clear ri
                                       replace RC := Lib.hid (RC.out.ext hx))
                                  try (have n45 : b4 ≠ b5 := by have := A25.out.lt; omega
                                       have N45 := Lib.hid n45
                                       clear n45
                                       replace A25 := Lib.hid (A25.out.ext hx))
                                  have A24 := Lib.hid hb
                                  replace XC := Lib.hid (XC.out.tr hx)
                                  clear hb hx hl
                                  refine hK.out _ _ (fun _ => ⟨(TBK.out.ext XC.out).cell, XC.out.cellSome K4.out⟩) (fun hHeld2 => ?_)
                                  clear hK K
                                  try clear hHeld
                                  have hHeld := hHeld2 (by decide)
                                  clear hHeld2
                                  try simp only [Act.put, List.setIfInBounds_toArray, List.set_cons_zero, List.set_cons_succ]
                                  refine wpAnyK_ready (rs := [11]) (by kernel_rfl) (by simp) ?_
                                  refine AllReadyK.consL (i := 11) rfl (fun K hK => ?_) ?_
                                  · refine step_allocA (t := 74) rfl rfl Try.zeroValue74 ?_
                                    intro b5 wy hb hx hl
                                    have hl5 : w4.heap.size ≤ b5 := Nat.le_trans XC.out.size hl
                                    try (have n5 : ¬ RN b5 := fun hb2 => by have h1 := (RNL.out b5 hb2).2; omega
                                         have N5 := Lib.hid n5
                                         clear n5
                                         have rnl : ∀ b, RN b → w4.heap.size ≤ b ∧ b < wy.heap.size := fun b hb => ⟨(RNL.out b hb).1, Nat.lt_of_lt_of_le (RNL.out b hb).2 hx.size⟩
                                         replace RNL := Lib.hid rnl
                                         clear rnl
                                         have ri := And.intro (RI.out.1.ext hx) (RI.out.2.ext hx)
                                         replace RI := Lib.hid ri
                                         clear ri
                                         replace RC := Lib.hid (RC.out.ext hx))
                                    try (have n45 : b4 ≠ b5 := by have := A24.out.lt; omega
                                         have N45 := Lib.hid n45
                                         clear n45
                                         replace A24 := Lib.hid (A24.out.ext hx))
                                    have A25 := Lib.hid hb
                                    replace XC := Lib.hid (XC.out.tr hx)
                                    clear hb hx hl
                                    refine hK.out _ _ (fun _ => ⟨(TBK.out.ext XC.out).cell, XC.out.cellSome K4.out⟩) (fun hHeld2 => ?_)
                                    clear hK K
                                    try clear hHeld
                                    have hHeld := hHeld2 (by decide)
                                    clear hHeld2
                                    try simp only [Act.put, List.setIfInBounds_toArray, List.set_cons_zero, List.set_cons_succ]
                                    refine wpAnyK_ready (rs := [12]) (by kernel_rfl) (by simp) ?_
                                    refine AllReadyK.consL (i := 12) rfl (fun K hK => ?_) ?_
                                    · refine step_storeK (cells := #[.slice ap pat.length cp, .slice al l.length cl, .int .i64 d.win, .int .i64 d.limit, .slice a7 n7 c7]) rfl rfl A24.out rfl rfl (by kernel_rfl) rfl (by simp [Value.oneCell']) ?_
                                      intro wy hb ho
                                      have hxs := XC.out.then_only ho (fun b (e : b = b4) => by omega)
                                      have ri := And.intro (RI.out.1.only ho (fun b hb (e : b = b4) => N4.out (e ▸ RO.out b (.inl hb)))) (RI.out.2.only ho (fun b hb (e : b = b4) => N4.out (e ▸ RO.out b (.inr hb))))
                                      have rc := RC.out.only ho (fun b hb (e : b = b4) => by
                                        rcases hb with hb | hb
                                        · have := (MID.out.r b hb).2.2.1; omega
                                        · exact N4.out (e ▸ hb))
                                      have rnl : ∀ b, RN b → w4.heap.size ≤ b ∧ b < wy.heap.size := fun b hb => ⟨(RNL.out b hb).1, Nat.lt_of_lt_of_le (RNL.out b hb).2 ho.size⟩
                                      have a25 := A25.out.only ho (fun (e : b5 = b4) => N45.out e.symm)
                                      clear RI RC RNL A24 A25 XC
                                      have A24 := Lib.hid hb
                                      have A25 := Lib.hid a25
                                      have RI := Lib.hid ri
                                      have RC := Lib.hid rc
                                      have RNL := Lib.hid rnl
                                      have XC := Lib.hid hxs
                                      clear hb a25 ri rc rnl hxs
                                      clear ho
                                      refine hK.out _ _ (fun _ => ⟨(TBK.out.ext XC.out).cell, XC.out.cellSome K4.out⟩) (fun hHeld2 => ?_)
                                      clear hK K
                                      try clear hHeld
                                      have hHeld := hHeld2 (by decide)
                                      clear hHeld2
                                      try simp only [Act.put, List.setIfInBounds_toArray, List.set_cons_zero, List.set_cons_succ]
                                      refine wpAnyK_ready (rs := [13]) (by kernel_rfl) (by simp) ?_
                                      refine AllReadyK.consL (i := 13) rfl (fun K hK => ?_) ?_
                                      · refine step_storeK (cells := #[.bool og, .int .i64 os, .slice ae' ne ce', .slice am' nm cm']) rfl rfl A25.out rfl rfl (by kernel_rfl) rfl (by simp [Value.oneCell']) ?_
                                        intro wy hb ho
                                        have hxs := XC.out.then_only ho (fun b (e : b = b5) => by omega)
                                        have ri := And.intro (RI.out.1.only ho (fun b hb (e : b = b5) => N5.out (e ▸ RO.out b (.inl hb)))) (RI.out.2.only ho (fun b hb (e : b = b5) => N5.out (e ▸ RO.out b (.inr hb))))
                                        have rc := RC.out.only ho (fun b hb (e : b = b5) => by
                                          rcases hb with hb | hb
                                          · have := (MID.out.r b hb).2.2.1; omega
                                          · exact N5.out (e ▸ hb))
                                        have rnl : ∀ b, RN b → w4.heap.size ≤ b ∧ b < wy.heap.size := fun b hb => ⟨(RNL.out b hb).1, Nat.lt_of_lt_of_le (RNL.out b hb).2 ho.size⟩
                                        have a24 := A24.out.only ho (fun (e : b4 = b5) => N45.out e)
                                        clear RI RC RNL A24 A25 XC
                                        have A25 := Lib.hid hb
                                        have A24 := Lib.hid a24
                                        have RI := Lib.hid ri
                                        have RC := Lib.hid rc
                                        have RNL := Lib.hid rnl
                                        have XC := Lib.hid hxs
                                        clear hb a24 ri rc rnl hxs
                                        clear ho
                                        refine hK.out _ _ (fun _ => ⟨(TBK.out.ext XC.out).cell, XC.out.cellSome K4.out⟩) (fun hHeld2 => ?_)
                                        clear hK K
                                        try clear hHeld
                                        have hHeld := hHeld2 (by decide)
                                        clear hHeld2
                                        try simp only [Act.put, List.setIfInBounds_toArray, List.set_cons_zero, List.set_cons_succ]
                                        refine wpAnyK_ready (rs := [14]) (by kernel_rfl) (by simp) ?_
                                        refine AllReadyK.consL (i := 14) rfl (fun K hK => ?_) ?_
                                        · go_simp
                                          refine hK.out _ _ (fun h => absurd h (by decide)) (fun hHeld2 => ?_)
                                          clear hK K hHeld2
                                          try clear hHeld
                                          try simp only [Act.put, List.setIfInBounds_toArray, List.set_cons_zero, List.set_cons_succ]
                                          refine wpAnyK_done (by kernel_rfl) ?_ _
                                          go_wp2
                                          go_meet
                                          case rel => exact ⟨b4, b5, ae', ce', am', cm', a7, c7, fun b => R b ∨ RN b, rfl, rfl, rfl, MID.out.join XC.out RC.out RNL.out, A24.out, A25.out, RI.out, XC.out⟩
                                        · exact AllReadyK.nil
                                      · exact AllReadyK.nil
                                    · exact AllReadyK.nil
                                  · exact AllReadyK.nil
                                refine AllReadyK.consL (i := 11) rfl (fun K hK => ?_) ?_
                                · refine step_allocA (t := 74) rfl rfl Try.zeroValue74 ?_
                                  intro b5 wy hb hx hl
                                  have hl5 : w4.heap.size ≤ b5 := Nat.le_trans XC.out.size hl
                                  try (have n5 : ¬ RN b5 := fun hb2 => by have h1 := (RNL.out b5 hb2).2; omega
                                       have N5 := Lib.hid n5
                                       clear n5
                                       have rnl : ∀ b, RN b → w4.heap.size ≤ b ∧ b < wy.heap.size := fun b hb => ⟨(RNL.out b hb).1, Nat.lt_of_lt_of_le (RNL.out b hb).2 hx.size⟩
                                       replace RNL := Lib.hid rnl
                                       clear rnl
                                       have ri := And.intro (RI.out.1.ext hx) (RI.out.2.ext hx)
                                       replace RI := Lib.hid ri
                                       clear ri
                                       replace RC := Lib.hid (RC.out.ext hx))
                                  try (have n45 : b4 ≠ b5 := by have := A24.out.lt; omega
                                       have N45 := Lib.hid n45
                                       clear n45
                                       replace A24 := Lib.hid (A24.out.ext hx))
                                  have A25 := Lib.hid hb
                                  replace XC := Lib.hid (XC.out.tr hx)
                                  clear hb hx hl
                                  refine hK.out _ _ (fun _ => ⟨(TBK.out.ext XC.out).cell, XC.out.cellSome K4.out⟩) (fun hHeld2 => ?_)
                                  clear hK K
                                  try clear hHeld
                                  have hHeld := hHeld2 (by decide)
                                  clear hHeld2
                                  try simp only [Act.put, List.setIfInBounds_toArray, List.set_cons_zero, List.set_cons_succ]
                                  refine wpAnyK_ready (rs := [10]) (by kernel_rfl) (by simp) ?_
                                  refine AllReadyK.consL (i := 10) rfl (fun K hK => ?_) ?_
                                  · refine step_allocA (t := 71) rfl rfl Try.zeroValue71 ?_
                                    intro b4 wy hb hx hl
                                    have hl4 : w4.heap.size ≤ b4 := Nat.le_trans XC.out.size hl
                                    try (have n4 : ¬ RN b4 := fun hb2 => by have h1 := (RNL.out b4 hb2).2; omega
                                         have N4 := Lib.hid n4
                                         clear n4
                                         have rnl : ∀ b, RN b → w4.heap.size ≤ b ∧ b < wy.heap.size := fun b hb => ⟨(RNL.out b hb).1, Nat.lt_of_lt_of_le (RNL.out b hb).2 hx.size⟩
                                         replace RNL := Lib.hid rnl
                                         clear rnl
                                         have ri := And.intro (RI.out.1.ext hx) (RI.out.2.ext hx)
                                         replace RI := Lib.hid ri
                                         clear ri
                                         replace RC := Lib.hid (RC.out.ext hx))
                                    try (have n45 : b4 ≠ b5 := by have := A25.out.lt; omega
                                         have N45 := Lib.hid n45
                                         clear n45
                                         replace A25 := Lib.hid (A25.out.ext hx))
                                    have A24 := Lib.hid hb
                                    replace XC := Lib.hid (XC.out.tr hx)
                                    clear hb hx hl
                                    refine hK.out _ _ (fun _ => ⟨(TBK.out.ext XC.out).cell, XC.out.cellSome K4.out⟩) (fun hHeld2 => ?_)
                                    clear hK K
                                    try clear hHeld
                                    have hHeld := hHeld2 (by decide)
                                    clear hHeld2
                                    try simp only [Act.put, List.setIfInBounds_toArray, List.set_cons_zero, List.set_cons_succ]
                                    refine wpAnyK_ready (rs := [12]) (by kernel_rfl) (by simp) ?_
                                    refine AllReadyK.consL (i := 12) rfl (fun K hK => ?_) ?_
                                    · refine step_storeK (cells := #[.slice ap pat.length cp, .slice al l.length cl, .int .i64 d.win, .int .i64 d.limit, .slice a7 n7 c7]) rfl rfl A24.out rfl rfl (by kernel_rfl) rfl (by simp [Value.oneCell']) ?_
                                      intro wy hb ho
                                      have hxs := XC.out.then_only ho (fun b (e : b = b4) => by omega)
                                      have ri := And.intro (RI.out.1.only ho (fun b hb (e : b = b4) => N4.out (e ▸ RO.out b (.inl hb)))) (RI.out.2.only ho (fun b hb (e : b = b4) => N4.out (e ▸ RO.out b (.inr hb))))
                                      have rc := RC.out.only ho (fun b hb (e : b = b4) => by
                                        rcases hb with hb | hb
                                        · have := (MID.out.r b hb).2.2.1; omega
                                        · exact N4.out (e ▸ hb))
                                      have rnl : ∀ b, RN b → w4.heap.size ≤ b ∧ b < wy.heap.size := fun b hb => ⟨(RNL.out b hb).1, Nat.lt_of_lt_of_le (RNL.out b hb).2 ho.size⟩
                                      have a25 := A25.out.only ho (fun (e : b5 = b4) => N45.out e.symm)
                                      clear RI RC RNL A24 A25 XC
                                      have A24 := Lib.hid hb
                                      have A25 := Lib.hid a25
                                      have RI := Lib.hid ri
                                      have RC := Lib.hid rc
                                      have RNL := Lib.hid rnl
                                      have XC := Lib.hid hxs
                                      clear hb a25 ri rc rnl hxs
                                      clear ho
                                      refine hK.out _ _ (fun _ => ⟨(TBK.out.ext XC.out).cell, XC.out.cellSome K4.out⟩) (fun hHeld2 => ?_)
                                      clear hK K
                                      try clear hHeld
                                      have hHeld := hHeld2 (by decide)
                                      clear hHeld2
                                      try simp only [Act.put, List.setIfInBounds_toArray, List.set_cons_zero, List.set_cons_succ]
                                      refine wpAnyK_ready (rs := [13]) (by kernel_rfl) (by simp) ?_
                                      refine AllReadyK.consL (i := 13) rfl (fun K hK => ?_) ?_
                                      · refine step_storeK (cells := #[.bool og, .int .i64 os, .slice ae' ne ce', .slice am' nm cm']) rfl rfl A25.out rfl rfl (by kernel_rfl) rfl (by simp [Value.oneCell']) ?_
                                        intro wy hb ho
                                        have hxs := XC.out.then_only ho (fun b (e : b = b5) => by omega)
                                        have ri := And.intro (RI.out.1.only ho (fun b hb (e : b = b5) => N5.out (e ▸ RO.out b (.inl hb)))) (RI.out.2.only ho (fun b hb (e : b = b5) => N5.out (e ▸ RO.out b (.inr hb))))
                                        have rc := RC.out.only ho (fun b hb (e : b = b5) => by
                                          rcases hb with hb | hb
                                          · have := (MID.out.r b hb).2.2.1; omega
                                          · exact N5.out (e ▸ hb))
                                        have rnl : ∀ b, RN b → w4.heap.size ≤ b ∧ b < wy.heap.size := fun b hb => ⟨(RNL.out b hb).1, Nat.lt_of_lt_of_le (RNL.out b hb).2 ho.size⟩
                                        have a24 := A24.out.only ho (fun (e : b4 = b5) => N45.out e)
                                        clear RI RC RNL A24 A25 XC
                                        have A25 := Lib.hid hb
                                        have A24 := Lib.hid a24
                                        have RI := Lib.hid ri
                                        have RC := Lib.hid rc
                                        have RNL := Lib.hid rnl
                                        have XC := Lib.hid hxs
                                        clear hb a24 ri rc rnl hxs
                                        clear ho
                                        refine hK.out _ _ (fun _ => ⟨(TBK.out.ext XC.out).cell, XC.out.cellSome K4.out⟩) (fun hHeld2 => ?_)
                                        clear hK K
                                        try clear hHeld
                                        have hHeld := hHeld2 (by decide)
                                        clear hHeld2
                                        try simp only [Act.put, List.setIfInBounds_toArray, List.set_cons_zero, List.set_cons_succ]
                                        refine wpAnyK_ready (rs := [14]) (by kernel_rfl) (by simp) ?_
                                        refine AllReadyK.consL (i := 14) rfl (fun K hK => ?_) ?_
                                        · go_simp
                                          refine hK.out _ _ (fun h => absurd h (by decide)) (fun hHeld2 => ?_)
                                          clear hK K hHeld2
                                          try clear hHeld
                                          try simp only [Act.put, List.setIfInBounds_toArray, List.set_cons_zero, List.set_cons_succ]
                                          refine wpAnyK_done (by kernel_rfl) ?_ _
                                          go_wp2
                                          go_meet
                                          case rel => exact ⟨b4, b5, ae', ce', am', cm', a7, c7, fun b => R b ∨ RN b, rfl, rfl, rfl, MID.out.join XC.out RC.out RNL.out, A24.out, A25.out, RI.out, XC.out⟩
                                        · exact AllReadyK.nil
                                      · exact AllReadyK.nil
                                    · exact AllReadyK.nil
                                  · exact AllReadyK.nil
                                · exact AllReadyK.nil
                              refine AllReadyK.consL (i := 10) rfl (fun K hK => ?_) ?_
                              · refine step_allocA (t := 71) rfl rfl Try.zeroValue71 ?_
                                intro b4 wy hb hx hl
                                have hl4 : w4.heap.size ≤ b4 := Nat.le_trans XC.out.size hl
                                try (have n4 : ¬ RN b4 := fun hb2 => by have h1 := (RNL.out b4 hb2).2; omega
                                     have N4 := Lib.hid n4
                                     clear n4
                                     have rnl : ∀ b, RN b → w4.heap.size ≤ b ∧ b < wy.heap.size := fun b hb => ⟨(RNL.out b hb).1, Nat.lt_of_lt_of_le (RNL.out b hb).2 hx.size⟩
                                     replace RNL := Lib.hid rnl
                                     clear rnl
                                     have ri := And.intro (RI.out.1.ext hx) (RI.out.2.ext hx)
                                     replace RI := Lib.hid ri
                                     clear ri
                                     replace RC := Lib.hid (RC.out.ext hx))
                                try (have n45 : b4 ≠ b5 := by have := A25.out.lt; omega
                                     have N45 := Lib.hid n45
                                     clear n45
                                     replace A25 := Lib.hid (A25.out.ext hx))
                                have A24 := Lib.hid hb
                                replace XC := Lib.hid (XC.out.tr hx)
                                clear hb hx hl
                                refine hK.out _ _ (fun _ => ⟨(TBK.out.ext XC.out).cell, XC.out.cellSome K4.out⟩) (fun hHeld2 => ?_)
                                clear hK K
                                try clear hHeld
                                have hHeld := hHeld2 (by decide)
                                clear hHeld2
                                try simp only [Act.put, List.setIfInBounds_toArray, List.set_cons_zero, List.set_cons_succ]
                                refine wpAnyK_ready (rs := [5, 11]) (by kernel_rfl) (by simp) ?_
                                refine AllReadyK.consL (i := 5) rfl (fun K hK => ?_) ?_
                                · refine step_call (vs := #[.agg #[.slice ap pat.length cp, .slice al l.length cl, .int .i64 d.win, .int .i64 d.limit, .slice avc d.copies.length cvc], .slice a3 seen.length c3]) rfl rfl rfl Try.func26 (by kernel_rfl) (by kernel_rfl) (HRR.out _ XC.out) ?_
                                  rintro e wy ⟨RN, ae', ce', am', cm', a7, c7, rfl, RI, hx, RC, hrn, RO⟩
                                  refine ⟨_, rfl, ?_⟩
                                  have rnl : ∀ b, RN b → w4.heap.size ≤ b ∧ b < wy.heap.size := fun b hb => ⟨Nat.le_trans XC.out.size (hrn b hb).1, (hrn b hb).2⟩
                                  try (have n4 : ¬ RN b4 := fun hb => by have h1 := (hrn b4 hb).1; have h2 := A24.out.lt; omega
                                       have N4 := Lib.hid n4
                                       clear n4
                                       replace A24 := Lib.hid (A24.out.ext hx))
                                  try (have n5 : ¬ RN b5 := fun hb => by have h1 := (hrn b5 hb).1; have h2 := A25.out.lt; omega
                                       have N5 := Lib.hid n5
                                       clear n5
                                       replace A25 := Lib.hid (A25.out.ext hx))
                                  replace XC := Lib.hid (XC.out.tr hx)
                                  have RNL := Lib.hid rnl
                                  clear rnl hrn hx
                                  refine hK.out _ _ (fun _ => ⟨(TBK.out.ext XC.out).cell, XC.out.cellSome K4.out⟩) (fun hHeld2 => ?_)
                                  clear hK K
                                  try clear hHeld
                                  have hHeld := hHeld2 (by decide)
                                  clear hHeld2
                                  try simp only [Act.put, List.setIfInBounds_toArray, List.set_cons_zero, List.set_cons_succ]
                                  refine wpAnyK_takeL (i := 6) (v := ?_) rfl (by kernel_rfl) (by kernel_rfl) (by kernel_rfl) (by kernel_rfl) (fun _ _ _ h => h) (Or.inl ⟨by rfl, ?_⟩) hHeld ?_
                                  rotate_left
                                  · intro w hSw; (try dsimp only at hSw); go_simp; (try with_reducible rfl)
                                  try simp only [Act.put, List.setIfInBounds_toArray, List.set_cons_zero, List.set_cons_succ]
                                  refine wpAnyK_takeL (i := 7) (v := ?_) rfl (by kernel_rfl) (by kernel_rfl) (by kernel_rfl) (by kernel_rfl) (fun _ _ _ h => h) (Or.inl ⟨by rfl, ?_⟩) hHeld ?_
                                  rotate_left
                                  · intro w hSw; (try dsimp only at hSw); go_simp; (try with_reducible rfl)
                                  try simp only [Act.put, List.setIfInBounds_toArray, List.set_cons_zero, List.set_cons_succ]
                                  refine wpAnyK_takeL (i := 8) (v := ?_) rfl (by kernel_rfl) (by kernel_rfl) (by kernel_rfl) (by kernel_rfl) (fun _ _ _ h => h) (Or.inl ⟨by rfl, ?_⟩) hHeld ?_
                                  rotate_left
                                  · intro w hSw; (try dsimp only at hSw); go_simp; (try with_reducible rfl)
                                  try simp only [Act.put, List.setIfInBounds_toArray, List.set_cons_zero, List.set_cons_succ]
                                  refine wpAnyK_takeL (i := 9) (v := ?_) rfl (by kernel_rfl) (by kernel_rfl) (by kernel_rfl) (by kernel_rfl) (fun _ _ _ h => h) (Or.inl ⟨by rfl, ?_⟩) hHeld ?_
                                  rotate_left
                                  · intro w hSw; (try dsimp only at hSw); go_simp; (try with_reducible rfl)
                                  try simp only [Act.put, List.setIfInBounds_toArray, List.set_cons_zero, List.set_cons_succ]
                                  refine wpAnyK_ready (rs := [11]) (by kernel_rfl) (by simp) ?_
                                  refine AllReadyK.consL (i := 11) rfl (fun K hK => ?_) ?_
                                  · refine step_allocA (t := 74) rfl rfl Try.zeroValue74 ?_
                                    intro b5 wy hb hx hl
                                    have hl5 : w4.heap.size ≤ b5 := Nat.le_trans XC.out.size hl
                                    try (have n5 : ¬ RN b5 := fun hb2 => by have h1 := (RNL.out b5 hb2).2; omega
                                         have N5 := Lib.hid n5
                                         clear n5
                                         have rnl : ∀ b, RN b → w4.heap.size ≤ b ∧ b < wy.heap.size := fun b hb => ⟨(RNL.out b hb).1, Nat.lt_of_lt_of_le (RNL.out b hb).2 hx.size⟩
                                         replace RNL := Lib.hid rnl
                                         clear rnl
                                         have ri := And.intro (RI.out.1.ext hx) (RI.out.2.ext hx)
                                         replace RI := Lib.hid ri
                                         clear ri
                                         replace RC := Lib.hid (RC.out.ext hx))
                                    try (have n45 : b4 ≠ b5 := by have := A24.out.lt; omega
                                         have N45 := Lib.hid n45
                                         clear n45
                                         replace A24 := Lib.hid (A24.out.ext hx))
                                    have A25 := Lib.hid hb
                                    replace XC := Lib.hid (XC.out.tr hx)
                                    clear hb hx hl
                                    refine hK.out _ _ (fun _ => ⟨(TBK.out.ext XC.out).cell, XC.out.cellSome K4.out⟩) (fun hHeld2 => ?_)
                                    clear hK K
                                    try clear hHeld
                                    have hHeld := hHeld2 (by decide)
                                    clear hHeld2
                                    try simp only [Act.put, List.setIfInBounds_toArray, List.set_cons_zero, List.set_cons_succ]
                                    refine wpAnyK_ready (rs := [12]) (by kernel_rfl) (by simp) ?_
                                    refine AllReadyK.consL (i := 12) rfl (fun K hK => ?_) ?_
                                    · refine step_storeK (cells := #[.slice ap pat.length cp, .slice al l.length cl, .int .i64 d.win, .int .i64 d.limit, .slice a7 n7 c7]) rfl rfl A24.out rfl rfl (by kernel_rfl) rfl (by simp [Value.oneCell']) ?_
                                      intro wy hb ho
                                      have hxs := XC.out.then_only ho (fun b (e : b = b4) => by omega)
                                      have ri := And.intro (RI.out.1.only ho (fun b hb (e : b = b4) => N4.out (e ▸ RO.out b (.inl hb)))) (RI.out.2.only ho (fun b hb (e : b = b4) => N4.out (e ▸ RO.out b (.inr hb))))
                                      have rc := RC.out.only ho (fun b hb (e : b = b4) => by
                                        rcases hb with hb | hb
                                        · have := (MID.out.r b hb).2.2.1; omega
                                        · exact N4.out (e ▸ hb))
                                      have rnl : ∀ b, RN b → w4.heap.size ≤ b ∧ b < wy.heap.size := fun b hb => ⟨(RNL.out b hb).1, Nat.lt_of_lt_of_le (RNL.out b hb).2 ho.size⟩
                                      have a25 := A25.out.only ho (fun (e : b5 = b4) => N45.out e.symm)
                                      clear RI RC RNL A24 A25 XC
                                      have A24 := Lib.hid hb
                                      have A25 := Lib.hid a25
                                      have RI := Lib.hid ri
                                      have RC := Lib.hid rc
                                      have RNL := Lib.hid rnl
                                      have XC := Lib.hid hxs
                                      clear hb a25 ri rc rnl hxs
                                      clear ho
                                      refine hK.out _ _ (fun _ => ⟨(TBK.out.ext XC.out).cell, XC.out.cellSome K4.out⟩) (fun hHeld2 => ?_)
                                      clear hK K
                                      try clear hHeld
                                      have hHeld := hHeld2 (by decide)
                                      clear hHeld2
                                      try simp only [Act.put, List.setIfInBounds_toArray, List.set_cons_zero, List.set_cons_succ]
                                      refine wpAnyK_ready (rs := [13]) (by kernel_rfl) (by simp) ?_
                                      refine AllReadyK.consL (i := 13) rfl (fun K hK => ?_) ?_
                                      · refine step_storeK (cells := #[.bool og, .int .i64 os, .slice ae' ne ce', .slice am' nm cm']) rfl rfl A25.out rfl rfl (by kernel_rfl) rfl (by simp [Value.oneCell']) ?_
                                        intro wy hb ho
                                        have hxs := XC.out.then_only ho (fun b (e : b = b5) => by omega)
                                        have ri := And.intro (RI.out.1.only ho (fun b hb (e : b = b5) => N5.out (e ▸ RO.out b (.inl hb)))) (RI.out.2.only ho (fun b hb (e : b = b5) => N5.out (e ▸ RO.out b (.inr hb))))
                                        have rc := RC.out.only ho (fun b hb (e : b = b5) => by
                                          rcases hb with hb | hb
                                          · have := (MID.out.r b hb).2.2.1; omega
                                          · exact N5.out (e ▸ hb))
                                        have rnl : ∀ b, RN b → w4.heap.size ≤ b ∧ b < wy.heap.size := fun b hb => ⟨(RNL.out b hb).1, Nat.lt_of_lt_of_le (RNL.out b hb).2 ho.size⟩
                                        have a24 := A24.out.only ho (fun (e : b4 = b5) => N45.out e)
                                        clear RI RC RNL A24 A25 XC
                                        have A25 := Lib.hid hb
                                        have A24 := Lib.hid a24
                                        have RI := Lib.hid ri
                                        have RC := Lib.hid rc
                                        have RNL := Lib.hid rnl
                                        have XC := Lib.hid hxs
                                        clear hb a24 ri rc rnl hxs
                                        clear ho
                                        refine hK.out _ _ (fun _ => ⟨(TBK.out.ext XC.out).cell, XC.out.cellSome K4.out⟩) (fun hHeld2 => ?_)
                                        clear hK K
                                        try clear hHeld
                                        have hHeld := hHeld2 (by decide)
                                        clear hHeld2
                                        try simp only [Act.put, List.setIfInBounds_toArray, List.set_cons_zero, List.set_cons_succ]
                                        refine wpAnyK_ready (rs := [14]) (by kernel_rfl) (by simp) ?_
                                        refine AllReadyK.consL (i := 14) rfl (fun K hK => ?_) ?_
                                        · go_simp
                                          refine hK.out _ _ (fun h => absurd h (by decide)) (fun hHeld2 => ?_)
                                          clear hK K hHeld2
                                          try clear hHeld
                                          try simp only [Act.put, List.setIfInBounds_toArray, List.set_cons_zero, List.set_cons_succ]
                                          refine wpAnyK_done (by kernel_rfl) ?_ _
                                          go_wp2
                                          go_meet
                                          case rel => exact ⟨b4, b5, ae', ce', am', cm', a7, c7, fun b => R b ∨ RN b, rfl, rfl, rfl, MID.out.join XC.out RC.out RNL.out, A24.out, A25.out, RI.out, XC.out⟩
                                        · exact AllReadyK.nil
                                      · exact AllReadyK.nil
                                    · exact AllReadyK.nil
                                  · exact AllReadyK.nil
                                refine AllReadyK.consL (i := 11) rfl (fun K hK => ?_) ?_
                                · refine step_allocA (t := 74) rfl rfl Try.zeroValue74 ?_
                                  intro b5 wy hb hx hl
                                  have hl5 : w4.heap.size ≤ b5 := Nat.le_trans XC.out.size hl
                                  try (have n5 : ¬ RN b5 := fun hb2 => by have h1 := (RNL.out b5 hb2).2; omega
                                       have N5 := Lib.hid n5
                                       clear n5
                                       have rnl : ∀ b, RN b → w4.heap.size ≤ b ∧ b < wy.heap.size := fun b hb => ⟨(RNL.out b hb).1, Nat.lt_of_lt_of_le (RNL.out b hb).2 hx.size⟩
                                       replace RNL := Lib.hid rnl
                                       clear rnl
                                       have ri := And.intro (RI.out.1.ext hx) (RI.out.2.ext hx)
                                       replace RI := Lib.hid ri
                                       clear ri
                                       replace RC := Lib.hid (RC.out.ext hx))
                                  try (have n45 : b4 ≠ b5 := by have := A24.out.lt; omega
                                       have N45 := Lib.hid n45
                                       clear n45
                                       replace A24 := Lib.hid (A24.out.ext hx))
                                  have A25 := Lib.hid hb
                                  replace XC := Lib.hid (XC.out.tr hx)
                                  clear hb hx hl
                                  refine hK.out _ _ (fun _ => ⟨(TBK.out.ext XC.out).cell, XC.out.cellSome K4.out⟩) (fun hHeld2 => ?_)
                                  clear hK K
                                  try clear hHeld
                                  have hHeld := hHeld2 (by decide)
                                  clear hHeld2
                                  try simp only [Act.put, List.setIfInBounds_toArray, List.set_cons_zero, List.set_cons_succ]
                                  refine wpAnyK_ready (rs := [5]) (by kernel_rfl) (by simp) ?_
                                  refine AllReadyK.consL (i := 5) rfl (fun K hK => ?_) ?_
                                  · refine step_call (vs := #[.agg #[.slice ap pat.length cp, .slice al l.length cl, .int .i64 d.win, .int .i64 d.limit, .slice avc d.copies.length cvc], .slice a3 seen.length c3]) rfl rfl rfl Try.func26 (by kernel_rfl) (by kernel_rfl) (HRR.out _ XC.out) ?_
                                    rintro e wy ⟨RN, ae', ce', am', cm', a7, c7, rfl, RI, hx, RC, hrn, RO⟩
                                    refine ⟨_, rfl, ?_⟩
                                    have rnl : ∀ b, RN b → w4.heap.size ≤ b ∧ b < wy.heap.size := fun b hb => ⟨Nat.le_trans XC.out.size (hrn b hb).1, (hrn b hb).2⟩
                                    try (have n4 : ¬ RN b4 := fun hb => by have h1 := (hrn b4 hb).1; have h2 := A24.out.lt; omega
                                         have N4 := Lib.hid n4
                                         clear n4
                                         replace A24 := Lib.hid (A24.out.ext hx))
                                    try (have n5 : ¬ RN b5 := fun hb => by have h1 := (hrn b5 hb).1; have h2 := A25.out.lt; omega
                                         have N5 := Lib.hid n5
                                         clear n5
                                         replace A25 := Lib.hid (A25.out.ext hx))
                                    replace XC := Lib.hid (XC.out.tr hx)
                                    have RNL := Lib.hid rnl
                                    clear rnl hrn hx
                                    refine hK.out _ _ (fun _ => ⟨(TBK.out.ext XC.out).cell, XC.out.cellSome K4.out⟩) (fun hHeld2 => ?_)
                                    clear hK K
                                    try clear hHeld
                                    have hHeld := hHeld2 (by decide)
                                    clear hHeld2
                                    try simp only [Act.put, List.setIfInBounds_toArray, List.set_cons_zero, List.set_cons_succ]
                                    refine wpAnyK_takeL (i := 6) (v := ?_) rfl (by kernel_rfl) (by kernel_rfl) (by kernel_rfl) (by kernel_rfl) (fun _ _ _ h => h) (Or.inl ⟨by rfl, ?_⟩) hHeld ?_
                                    rotate_left
                                    · intro w hSw; (try dsimp only at hSw); go_simp; (try with_reducible rfl)
                                    try simp only [Act.put, List.setIfInBounds_toArray, List.set_cons_zero, List.set_cons_succ]
                                    refine wpAnyK_takeL (i := 7) (v := ?_) rfl (by kernel_rfl) (by kernel_rfl) (by kernel_rfl) (by kernel_rfl) (fun _ _ _ h => h) (Or.inl ⟨by rfl, ?_⟩) hHeld ?_
                                    rotate_left
                                    · intro w hSw; (try dsimp only at hSw); go_simp; (try with_reducible rfl)
                                    try simp only [Act.put, List.setIfInBounds_toArray, List.set_cons_zero, List.set_cons_succ]
                                    refine wpAnyK_takeL (i := 8) (v := ?_) rfl (by kernel_rfl) (by kernel_rfl) (by kernel_rfl) (by kernel_rfl) (fun _ _ _ h => h) (Or.inl ⟨by rfl, ?_⟩) hHeld ?_
                                    rotate_left
                                    · intro w hSw; (try dsimp only at hSw); go_simp; (try with_reducible rfl)
                                    try simp only [Act.put, List.setIfInBounds_toArray, List.set_cons_zero, List.set_cons_succ]
                                    refine wpAnyK_takeL (i := 9) (v := ?_) rfl (by kernel_rfl) (by kernel_rfl) (by kernel_rfl) (by kernel_rfl) (fun _ _ _ h => h) (Or.inl ⟨by rfl, ?_⟩) hHeld ?_
                                    rotate_left
                                    · intro w hSw; (try dsimp only at hSw); go_simp; (try with_reducible rfl)
                                    try simp only [Act.put, List.setIfInBounds_toArray, List.set_cons_zero, List.set_cons_succ]
                                    refine wpAnyK_ready (rs := [12]) (by kernel_rfl) (by simp) ?_
                                    refine AllReadyK.consL (i := 12) rfl (fun K hK => ?_) ?_
                                    · refine step_storeK (cells := #[.slice ap pat.length cp, .slice al l.length cl, .int .i64 d.win, .int .i64 d.limit, .slice a7 n7 c7]) rfl rfl A24.out rfl rfl (by kernel_rfl) rfl (by simp [Value.oneCell']) ?_
                                      intro wy hb ho
                                      have hxs := XC.out.then_only ho (fun b (e : b = b4) => by omega)
                                      have ri := And.intro (RI.out.1.only ho (fun b hb (e : b = b4) => N4.out (e ▸ RO.out b (.inl hb)))) (RI.out.2.only ho (fun b hb (e : b = b4) => N4.out (e ▸ RO.out b (.inr hb))))
                                      have rc := RC.out.only ho (fun b hb (e : b = b4) => by
                                        rcases hb with hb | hb
                                        · have := (MID.out.r b hb).2.2.1; omega
                                        · exact N4.out (e ▸ hb))
                                      have rnl : ∀ b, RN b → w4.heap.size ≤ b ∧ b < wy.heap.size := fun b hb => ⟨(RNL.out b hb).1, Nat.lt_of_lt_of_le (RNL.out b hb).2 ho.size⟩
                                      have a25 := A25.out.only ho (fun (e : b5 = b4) => N45.out e.symm)
                                      clear RI RC RNL A24 A25 XC
                                      have A24 := Lib.hid hb
                                      have A25 := Lib.hid a25
                                      have RI := Lib.hid ri
                                      have RC := Lib.hid rc
                                      have RNL := Lib.hid rnl
                                      have XC := Lib.hid hxs
                                      clear hb a25 ri rc rnl hxs
                                      clear ho
                                      refine hK.out _ _ (fun _ => ⟨(TBK.out.ext XC.out).cell, XC.out.cellSome K4.out⟩) (fun hHeld2 => ?_)
                                      clear hK K
                                      try clear hHeld
                                      have hHeld := hHeld2 (by decide)
                                      clear hHeld2
                                      try simp only [Act.put, List.setIfInBounds_toArray, List.set_cons_zero, List.set_cons_succ]
                                      refine wpAnyK_ready (rs := [13]) (by kernel_rfl) (by simp) ?_
                                      refine AllReadyK.consL (i := 13) rfl (fun K hK => ?_) ?_
                                      · refine step_storeK (cells := #[.bool og, .int .i64 os, .slice ae' ne ce', .slice am' nm cm']) rfl rfl A25.out rfl rfl (by kernel_rfl) rfl (by simp [Value.oneCell']) ?_
                                        intro wy hb ho
                                        have hxs := XC.out.then_only ho (fun b (e : b = b5) => by omega)
                                        have ri := And.intro (RI.out.1.only ho (fun b hb (e : b = b5) => N5.out (e ▸ RO.out b (.inl hb)))) (RI.out.2.only ho (fun b hb (e : b = b5) => N5.out (e ▸ RO.out b (.inr hb))))
                                        have rc := RC.out.only ho (fun b hb (e : b = b5) => by
                                          rcases hb with hb | hb
                                          · have := (MID.out.r b hb).2.2.1; omega
                                          · exact N5.out (e ▸ hb))
                                        have rnl : ∀ b, RN b → w4.heap.size ≤ b ∧ b < wy.heap.size := fun b hb => ⟨(RNL.out b hb).1, Nat.lt_of_lt_of_le (RNL.out b hb).2 ho.size⟩
                                        have a24 := A24.out.only ho (fun (e : b4 = b5) => N45.out e)
                                        clear RI RC RNL A24 A25 XC
                                        have A25 := Lib.hid hb
                                        have A24 := Lib.hid a24
                                        have RI := Lib.hid ri
                                        have RC := Lib.hid rc
                                        have RNL := Lib.hid rnl
                                        have XC := Lib.hid hxs
                                        clear hb a24 ri rc rnl hxs
                                        clear ho
                                        refine hK.out _ _ (fun _ => ⟨(TBK.out.ext XC.out).cell, XC.out.cellSome K4.out⟩) (fun hHeld2 => ?_)
                                        clear hK K
                                        try clear hHeld
                                        have hHeld := hHeld2 (by decide)
                                        clear hHeld2
                                        try simp only [Act.put, List.setIfInBounds_toArray, List.set_cons_zero, List.set_cons_succ]
                                        refine wpAnyK_ready (rs := [14]) (by kernel_rfl) (by simp) ?_
                                        refine AllReadyK.consL (i := 14) rfl (fun K hK => ?_) ?_
                                        · go_simp
                                          refine hK.out _ _ (fun h => absurd h (by decide)) (fun hHeld2 => ?_)
                                          clear hK K hHeld2
                                          try clear hHeld
                                          try simp only [Act.put, List.setIfInBounds_toArray, List.set_cons_zero, List.set_cons_succ]
                                          refine wpAnyK_done (by kernel_rfl) ?_ _
                                          go_wp2
                                          go_meet
                                          case rel => exact ⟨b4, b5, ae', ce', am', cm', a7, c7, fun b => R b ∨ RN b, rfl, rfl, rfl, MID.out.join XC.out RC.out RNL.out, A24.out, A25.out, RI.out, XC.out⟩
                                        · exact AllReadyK.nil
                                      · exact AllReadyK.nil
                                    · exact AllReadyK.nil
                                  · exact AllReadyK.nil
                                · exact AllReadyK.nil
                              refine AllReadyK.consL (i := 11) rfl (fun K hK => ?_) ?_
                              · refine step_allocA (t := 74) rfl rfl Try.zeroValue74 ?_
                                intro b5 wy hb hx hl
                                have hl5 : w4.heap.size ≤ b5 := Nat.le_trans XC.out.size hl
                                try (have n5 : ¬ RN b5 := fun hb2 => by have h1 := (RNL.out b5 hb2).2; omega
                                     have N5 := Lib.hid n5
                                     clear n5
                                     have rnl : ∀ b, RN b → w4.heap.size ≤ b ∧ b < wy.heap.size := fun b hb => ⟨(RNL.out b hb).1, Nat.lt_of_lt_of_le (RNL.out b hb).2 hx.size⟩
                                     replace RNL := Lib.hid rnl
                                     clear rnl
                                     have ri := And.intro (RI.out.1.ext hx) (RI.out.2.ext hx)
                                     replace RI := Lib.hid ri
                                     clear ri
                                     replace RC := Lib.hid (RC.out.ext hx))
                                try (have n45 : b4 ≠ b5 := by have := A24.out.lt; omega
                                     have N45 := Lib.hid n45
                                     clear n45
                                     replace A24 := Lib.hid (A24.out.ext hx))
                                have A25 := Lib.hid hb
                                replace XC := Lib.hid (XC.out.tr hx)
                                clear hb hx hl
                                refine hK.out _ _ (fun _ => ⟨(TBK.out.ext XC.out).cell, XC.out.cellSome K4.out⟩) (fun hHeld2 => ?_)
                                clear hK K
                                try clear hHeld
                                have hHeld := hHeld2 (by decide)
                                clear hHeld2
                                try simp only [Act.put, List.setIfInBounds_toArray, List.set_cons_zero, List.set_cons_succ]
                                refine wpAnyK_ready (rs := [5, 10]) (by kernel_rfl) (by simp) ?_
                                refine AllReadyK.consL (i := 5) rfl (fun K hK => ?_) ?_
                                · refine step_call (vs := #[.agg #[.slice ap pat.length cp, .slice al l.length cl, .int .i64 d.win, .int .i64 d.limit, .slice avc d.copies.length cvc], .slice a3 seen.length c3]) rfl rfl rfl Try.func26 (by kernel_rfl) (by kernel_rfl) (HRR.out _ XC.out) ?_
                                  rintro e wy ⟨RN, ae', ce', am', cm', a7, c7, rfl, RI, hx, RC, hrn, RO⟩
                                  refine ⟨_, rfl, ?_⟩
                                  have rnl : ∀ b, RN b → w4.heap.size ≤ b ∧ b < wy.heap.size := fun b hb => ⟨Nat.le_trans XC.out.size (hrn b hb).1, (hrn b hb).2⟩
                                  try (have n4 : ¬ RN b4 := fun hb => by have h1 := (hrn b4 hb).1; have h2 := A24.out.lt; omega
                                       have N4 := Lib.hid n4
                                       clear n4
                                       replace A24 := Lib.hid (A24.out.ext hx))
                                  try (have n5 : ¬ RN b5 := fun hb => by have h1 := (hrn b5 hb).1; have h2 := A25.out.lt; omega
                                       have N5 := Lib.hid n5
                                       clear n5
                                       replace A25 := Lib.hid (A25.out.ext hx))
                                  replace XC := Lib.hid (XC.out.tr hx)
                                  have RNL := Lib.hid rnl
                                  clear rnl hrn hx
                                  refine hK.out _ _ (fun _ => ⟨(TBK.out.ext XC.out).cell, XC.out.cellSome K4.out⟩) (fun hHeld2 => ?_)
                                  clear hK K
                                  try clear hHeld
                                  have hHeld := hHeld2 (by decide)
                                  clear hHeld2
                                  try simp only [Act.put, List.setIfInBounds_toArray, List.set_cons_zero, List.set_cons_succ]
                                  refine wpAnyK_takeL (i := 6) (v := ?_) rfl (by kernel_rfl) (by kernel_rfl) (by kernel_rfl) (by kernel_rfl) (fun _ _ _ h => h) (Or.inl ⟨by rfl, ?_⟩) hHeld ?_
                                  rotate_left
                                  · intro w hSw; (try dsimp only at hSw); go_simp; (try with_reducible rfl)
                                  try simp only [Act.put, List.setIfInBounds_toArray, List.set_cons_zero, List.set_cons_succ]
                                  refine wpAnyK_takeL (i := 7) (v := ?_) rfl (by kernel_rfl) (by kernel_rfl) (by kernel_rfl) (by kernel_rfl) (fun _ _ _ h => h) (Or.inl ⟨by rfl, ?_⟩) hHeld ?_
                                  rotate_left
                                  · intro w hSw; (try dsimp only at hSw); go_simp; (try with_reducible rfl)
                                  try simp only [Act.put, List.setIfInBounds_toArray, List.set_cons_zero, List.set_cons_succ]
                                  refine wpAnyK_takeL (i := 8) (v := ?_) rfl (by kernel_rfl) (by kernel_rfl) (by kernel_rfl) (by kernel_rfl) (fun _ _ _ h => h) (Or.inl ⟨by rfl, ?_⟩) hHeld ?_
                                  rotate_left
                                  · intro w hSw; (try dsimp only at hSw); go_simp; (try with_reducible rfl)
                                  try simp only [Act.put, List.setIfInBounds_toArray, List.set_cons_zero, List.set_cons_succ]
                                  refine wpAnyK_takeL (i := 9) (v := ?_) rfl (by kernel_rfl) (by kernel_rfl) (by kernel_rfl) (by kernel_rfl) (fun _ _ _ h => h) (Or.inl ⟨by rfl, ?_⟩) hHeld ?_
                                  rotate_left
                                  · intro w hSw; (try dsimp only at hSw); go_simp; (try with_reducible rfl)
                                  try simp only [Act.put, List.setIfInBounds_toArray, List.set_cons_zero, List.set_cons_succ]
                                  refine wpAnyK_ready (rs := [10]) (by kernel_rfl) (by simp) ?_
                                  refine AllReadyK.consL (i := 10) rfl (fun K hK => ?_) ?_
                                  · refine step_allocA (t := 71) rfl rfl Try.zeroValue71 ?_
                                    intro b4 wy hb hx hl
                                    have hl4 : w4.heap.size ≤ b4 := Nat.le_trans XC.out.size hl
                                    try (have n4 : ¬ RN b4 := fun hb2 => by have h1 := (RNL.out b4 hb2).2; omega
                                         have N4 := Lib.hid n4
                                         clear n4
                                         have rnl : ∀ b, RN b → w4.heap.size ≤ b ∧ b < wy.heap.size := fun b hb => ⟨(RNL.out b hb).1, Nat.lt_of_lt_of_le (RNL.out b hb).2 hx.size⟩
                                         replace RNL := Lib.hid rnl
                                         clear rnl
                                         have ri := And.intro (RI.out.1.ext hx) (RI.out.2.ext hx)
                                         replace RI := Lib.hid ri
                                         clear ri
                                         replace RC := Lib.hid (RC.out.ext hx))
                                    try (have n45 : b4 ≠ b5 := by have := A25.out.lt; omega
                                         have N45 := Lib.hid n45
                                         clear n45
                                         replace A25 := Lib.hid (A25.out.ext hx))
                                    have A24 := Lib.hid hb
                                    replace XC := Lib.hid (XC.out.tr hx)
                                    clear hb hx hl
                                    refine hK.out _ _ (fun _ => ⟨(TBK.out.ext XC.out).cell, XC.out.cellSome K4.out⟩) (fun hHeld2 => ?_)
                                    clear hK K
                                    try clear hHeld
                                    have hHeld := hHeld2 (by decide)
                                    clear hHeld2
                                    try simp only [Act.put, List.setIfInBounds_toArray, List.set_cons_zero, List.set_cons_succ]
                                    refine wpAnyK_ready (rs := [12]) (by kernel_rfl) (by simp) ?_
                                    refine AllReadyK.consL (i := 12) rfl (fun K hK => ?_) ?_
                                    · refine step_storeK (cells := #[.slice ap pat.length cp, .slice al l.length cl, .int .i64 d.win, .int .i64 d.limit, .slice a7 n7 c7]) rfl rfl A24.out rfl rfl (by kernel_rfl) rfl (by simp [Value.oneCell']) ?_
                                      intro wy hb ho
                                      have hxs := XC.out.then_only ho (fun b (e : b = b4) => by omega)
                                      have ri := And.intro (RI.out.1.only ho (fun b hb (e : b = b4) => N4.out (e ▸ RO.out b (.inl hb)))) (RI.out.2.only ho (fun b hb (e : b = b4) => N4.out (e ▸ RO.out b (.inr hb))))
                                      have rc := RC.out.only ho (fun b hb (e : b = b4) => by
                                        rcases hb with hb | hb
                                        · have := (MID.out.r b hb).2.2.1; omega
                                        · exact N4.out (e ▸ hb))
                                      have rnl : ∀ b, RN b → w4.heap.size ≤ b ∧ b < wy.heap.size := fun b hb => ⟨(RNL.out b hb).1, Nat.lt_of_lt_of_le (RNL.out b hb).2 ho.size⟩
                                      have a25 := A25.out.only ho (fun (e : b5 = b4) => N45.out e.symm)
                                      clear RI RC RNL A24 A25 XC
                                      have A24 := Lib.hid hb
                                      have A25 := Lib.hid a25
                                      have RI := Lib.hid ri
                                      have RC := Lib.hid rc
                                      have RNL := Lib.hid rnl
                                      have XC := Lib.hid hxs
                                      clear hb a25 ri rc rnl hxs
                                      clear ho
                                      refine hK.out _ _ (fun _ => ⟨(TBK.out.ext XC.out).cell, XC.out.cellSome K4.out⟩) (fun hHeld2 => ?_)
                                      clear hK K
                                      try clear hHeld
                                      have hHeld := hHeld2 (by decide)
                                      clear hHeld2
                                      try simp only [Act.put, List.setIfInBounds_toArray, List.set_cons_zero, List.set_cons_succ]
                                      refine wpAnyK_ready (rs := [13]) (by kernel_rfl) (by simp) ?_
                                      refine AllReadyK.consL (i := 13) rfl (fun K hK => ?_) ?_
                                      · refine step_storeK (cells := #[.bool og, .int .i64 os, .slice ae' ne ce', .slice am' nm cm']) rfl rfl A25.out rfl rfl (by kernel_rfl) rfl (by simp [Value.oneCell']) ?_
                                        intro wy hb ho
                                        have hxs := XC.out.then_only ho (fun b (e : b = b5) => by omega)
                                        have ri := And.intro (RI.out.1.only ho (fun b hb (e : b = b5) => N5.out (e ▸ RO.out b (.inl hb)))) (RI.out.2.only ho (fun b hb (e : b = b5) => N5.out (e ▸ RO.out b (.inr hb))))
                                        have rc := RC.out.only ho (fun b hb (e : b = b5) => by
                                          rcases hb with hb | hb
                                          · have := (MID.out.r b hb).2.2.1; omega
                                          · exact N5.out (e ▸ hb))
                                        have rnl : ∀ b, RN b → w4.heap.size ≤ b ∧ b < wy.heap.size := fun b hb => ⟨(RNL.out b hb).1, Nat.lt_of_lt_of_le (RNL.out b hb).2 ho.size⟩
                                        have a24 := A24.out.only ho (fun (e : b4 = b5) => N45.out e)
                                        clear RI RC RNL A24 A25 XC
                                        have A25 := Lib.hid hb
                                        have A24 := Lib.hid a24
                                        have RI := Lib.hid ri
                                        have RC := Lib.hid rc
                                        have RNL := Lib.hid rnl
                                        have XC := Lib.hid hxs
                                        clear hb a24 ri rc rnl hxs
                                        clear ho
                                        refine hK.out _ _ (fun _ => ⟨(TBK.out.ext XC.out).cell, XC.out.cellSome K4.out⟩) (fun hHeld2 => ?_)
                                        clear hK K
                                        try clear hHeld
                                        have hHeld := hHeld2 (by decide)
                                        clear hHeld2
                                        try simp only [Act.put, List.setIfInBounds_toArray, List.set_cons_zero, List.set_cons_succ]
                                        refine wpAnyK_ready (rs := [14]) (by kernel_rfl) (by simp) ?_
                                        refine AllReadyK.consL (i := 14) rfl (fun K hK => ?_) ?_
                                        · go_simp
                                          refine hK.out _ _ (fun h => absurd h (by decide)) (fun hHeld2 => ?_)
                                          clear hK K hHeld2
                                          try clear hHeld
                                          try simp only [Act.put, List.setIfInBounds_toArray, List.set_cons_zero, List.set_cons_succ]
                                          refine wpAnyK_done (by kernel_rfl) ?_ _
                                          go_wp2
                                          go_meet
                                          case rel => exact ⟨b4, b5, ae', ce', am', cm', a7, c7, fun b => R b ∨ RN b, rfl, rfl, rfl, MID.out.join XC.out RC.out RNL.out, A24.out, A25.out, RI.out, XC.out⟩
                                        · exact AllReadyK.nil
                                      · exact AllReadyK.nil
                                    · exact AllReadyK.nil
                                  · exact AllReadyK.nil
                                refine AllReadyK.consL (i := 10) rfl (fun K hK => ?_) ?_
                                · refine step_allocA (t := 71) rfl rfl Try.zeroValue71 ?_
                                  intro b4 wy hb hx hl
                                  have hl4 : w4.heap.size ≤ b4 := Nat.le_trans XC.out.size hl
                                  try (have n4 : ¬ RN b4 := fun hb2 => by have h1 := (RNL.out b4 hb2).2; omega
                                       have N4 := Lib.hid n4
                                       clear n4
                                       have rnl : ∀ b, RN b → w4.heap.size ≤ b ∧ b < wy.heap.size := fun b hb => ⟨(RNL.out b hb).1, Nat.lt_of_lt_of_le (RNL.out b hb).2 hx.size⟩
                                       replace RNL := Lib.hid rnl
                                       clear rnl
                                       have ri := And.intro (RI.out.1.ext hx) (RI.out.2.ext hx)
                                       replace RI := Lib.hid ri
                                       clear ri
                                       replace RC := Lib.hid (RC.out.ext hx))
                                  try (have n45 : b4 ≠ b5 := by have := A25.out.lt; omega
                                       have N45 := Lib.hid n45
                                       clear n45
                                       replace A25 := Lib.hid (A25.out.ext hx))
                                  have A24 := Lib.hid hb
                                  replace XC := Lib.hid (XC.out.tr hx)
                                  clear hb hx hl
                                  refine hK.out _ _ (fun _ => ⟨(TBK.out.ext XC.out).cell, XC.out.cellSome K4.out⟩) (fun hHeld2 => ?_)
                                  clear hK K
                                  try clear hHeld
                                  have hHeld := hHeld2 (by decide)
                                  clear hHeld2
                                  try simp only [Act.put, List.setIfInBounds_toArray, List.set_cons_zero, List.set_cons_succ]
                                  refine wpAnyK_ready (rs := [5]) (by kernel_rfl) (by simp) ?_
                                  refine AllReadyK.consL (i := 5) rfl (fun K hK => ?_) ?_
                                  · refine step_call (vs := #[.agg #[.slice ap pat.length cp, .slice al l.length cl, .int .i64 d.win, .int .i64 d.limit, .slice avc d.copies.length cvc], .slice a3 seen.length c3]) rfl rfl rfl Try.func26 (by kernel_rfl) (by kernel_rfl) (HRR.out _ XC.out) ?_
                                    rintro e wy ⟨RN, ae', ce', am', cm', a7, c7, rfl, RI, hx, RC, hrn, RO⟩
                                    refine ⟨_, rfl, ?_⟩
                                    have rnl : ∀ b, RN b → w4.heap.size ≤ b ∧ b < wy.heap.size := fun b hb => ⟨Nat.le_trans XC.out.size (hrn b hb).1, (hrn b hb).2⟩
                                    try (have n4 : ¬ RN b4 := fun hb => by have h1 := (hrn b4 hb).1; have h2 := A24.out.lt; omega
                                         have N4 := Lib.hid n4
                                         clear n4
                                         replace A24 := Lib.hid (A24.out.ext hx))
                                    try (have n5 : ¬ RN b5 := fun hb => by have h1 := (hrn b5 hb).1; have h2 := A25.out.lt; omega
                                         have N5 := Lib.hid n5
                                         clear n5
                                         replace A25 := Lib.hid (A25.out.ext hx))
                                    replace XC := Lib.hid (XC.out.tr hx)
                                    have RNL := Lib.hid rnl
                                    clear rnl hrn hx
                                    refine hK.out _ _ (fun _ => ⟨(TBK.out.ext XC.out).cell, XC.out.cellSome K4.out⟩) (fun hHeld2 => ?_)
                                    clear hK K
                                    try clear hHeld
                                    have hHeld := hHeld2 (by decide)
                                    clear hHeld2
                                    try simp only [Act.put, List.setIfInBounds_toArray, List.set_cons_zero, List.set_cons_succ]
                                    refine wpAnyK_takeL (i := 6) (v := ?_) rfl (by kernel_rfl) (by kernel_rfl) (by kernel_rfl) (by kernel_rfl) (fun _ _ _ h => h) (Or.inl ⟨by rfl, ?_⟩) hHeld ?_
                                    rotate_left
                                    · intro w hSw; (try dsimp only at hSw); go_simp; (try with_reducible rfl)
                                    try simp only [Act.put, List.setIfInBounds_toArray, List.set_cons_zero, List.set_cons_succ]
                                    refine wpAnyK_takeL (i := 7) (v := ?_) rfl (by kernel_rfl) (by kernel_rfl) (by kernel_rfl) (by kernel_rfl) (fun _ _ _ h => h) (Or.inl ⟨by rfl, ?_⟩) hHeld ?_
                                    rotate_left
                                    · intro w hSw; (try dsimp only at hSw); go_simp; (try with_reducible rfl)
                                    try simp only [Act.put, List.setIfInBounds_toArray, List.set_cons_zero, List.set_cons_succ]
                                    refine wpAnyK_takeL (i := 8) (v := ?_) rfl (by kernel_rfl) (by kernel_rfl) (by kernel_rfl) (by kernel_rfl) (fun _ _ _ h => h) (Or.inl ⟨by rfl, ?_⟩) hHeld ?_
                                    rotate_left
                                    · intro w hSw; (try dsimp only at hSw); go_simp; (try with_reducible rfl)
                                    try simp only [Act.put, List.setIfInBounds_toArray, List.set_cons_zero, List.set_cons_succ]
                                    refine wpAnyK_takeL (i := 9) (v := ?_) rfl (by kernel_rfl) (by kernel_rfl) (by kernel_rfl) (by kernel_rfl) (fun _ _ _ h => h) (Or.inl ⟨by rfl, ?_⟩) hHeld ?_
                                    rotate_left
                                    · intro w hSw; (try dsimp only at hSw); go_simp; (try with_reducible rfl)
                                    try simp only [Act.put, List.setIfInBounds_toArray, List.set_cons_zero, List.set_cons_succ]
                                    refine wpAnyK_ready (rs := [12]) (by kernel_rfl) (by simp) ?_
                                    refine AllReadyK.consL (i := 12) rfl (fun K hK => ?_) ?_
                                    · refine step_storeK (cells := #[.slice ap pat.length cp, .slice al l.length cl, .int .i64 d.win, .int .i64 d.limit, .slice a7 n7 c7]) rfl rfl A24.out rfl rfl (by kernel_rfl) rfl (by simp [Value.oneCell']) ?_
                                      intro wy hb ho
                                      have hxs := XC.out.then_only ho (fun b (e : b = b4) => by omega)
                                      have ri := And.intro (RI.out.1.only ho (fun b hb (e : b = b4) => N4.out (e ▸ RO.out b (.inl hb)))) (RI.out.2.only ho (fun b hb (e : b = b4) => N4.out (e ▸ RO.out b (.inr hb))))
                                      have rc := RC.out.only ho (fun b hb (e : b = b4) => by
                                        rcases hb with hb | hb
                                        · have := (MID.out.r b hb).2.2.1; omega
                                        · exact N4.out (e ▸ hb))
                                      have rnl : ∀ b, RN b → w4.heap.size ≤ b ∧ b < wy.heap.size := fun b hb => ⟨(RNL.out b hb).1, Nat.lt_of_lt_of_le (RNL.out b hb).2 ho.size⟩
                                      have a25 := A25.out.only ho (fun (e : b5 = b4) => N45.out e.symm)
                                      clear RI RC RNL A24 A25 XC
                                      have A24 := Lib.hid hb
                                      have A25 := Lib.hid a25
                                      have RI := Lib.hid ri
                                      have RC := Lib.hid rc
                                      have RNL := Lib.hid rnl
                                      have XC := Lib.hid hxs
                                      clear hb a25 ri rc rnl hxs
                                      clear ho
                                      refine hK.out _ _ (fun _ => ⟨(TBK.out.ext XC.out).cell, XC.out.cellSome K4.out⟩) (fun hHeld2 => ?_)
                                      clear hK K
                                      try clear hHeld
                                      have hHeld := hHeld2 (by decide)
                                      clear hHeld2
                                      try simp only [Act.put, List.setIfInBounds_toArray, List.set_cons_zero, List.set_cons_succ]
                                      refine wpAnyK_ready (rs := [13]) (by kernel_rfl) (by simp) ?_
                                      refine AllReadyK.consL (i := 13) rfl (fun K hK => ?_) ?_
                                      · refine step_storeK (cells := #[.bool og, .int .i64 os, .slice ae' ne ce', .slice am' nm cm']) rfl rfl A25.out rfl rfl (by kernel_rfl) rfl (by simp [Value.oneCell']) ?_
                                        intro wy hb ho
                                        have hxs := XC.out.then_only ho (fun b (e : b = b5) => by omega)
                                        have ri := And.intro (RI.out.1.only ho (fun b hb (e : b = b5) => N5.out (e ▸ RO.out b (.inl hb)))) (RI.out.2.only ho (fun b hb (e : b = b5) => N5.out (e ▸ RO.out b (.inr hb))))
                                        have rc := RC.out.only ho (fun b hb (e : b = b5) => by
                                          rcases hb with hb | hb
                                          · have := (MID.out.r b hb).2.2.1; omega
                                          · exact N5.out (e ▸ hb))
                                        have rnl : ∀ b, RN b → w4.heap.size ≤ b ∧ b < wy.heap.size := fun b hb => ⟨(RNL.out b hb).1, Nat.lt_of_lt_of_le (RNL.out b hb).2 ho.size⟩
                                        have a24 := A24.out.only ho (fun (e : b4 = b5) => N45.out e)
                                        clear RI RC RNL A24 A25 XC
                                        have A25 := Lib.hid hb
                                        have A24 := Lib.hid a24
                                        have RI := Lib.hid ri
                                        have RC := Lib.hid rc
                                        have RNL := Lib.hid rnl
                                        have XC := Lib.hid hxs
                                        clear hb a24 ri rc rnl hxs
                                        clear ho
                                        refine hK.out _ _ (fun _ => ⟨(TBK.out.ext XC.out).cell, XC.out.cellSome K4.out⟩) (fun hHeld2 => ?_)
                                        clear hK K
                                        try clear hHeld
                                        have hHeld := hHeld2 (by decide)
                                        clear hHeld2
                                        try simp only [Act.put, List.setIfInBounds_toArray, List.set_cons_zero, List.set_cons_succ]
                                        refine wpAnyK_ready (rs := [14]) (by kernel_rfl) (by simp) ?_
                                        refine AllReadyK.consL (i := 14) rfl (fun K hK => ?_) ?_
                                        · go_simp
                                          refine hK.out _ _ (fun h => absurd h (by decide)) (fun hHeld2 => ?_)
                                          clear hK K hHeld2
                                          try clear hHeld
                                          try simp only [Act.put, List.setIfInBounds_toArray, List.set_cons_zero, List.set_cons_succ]
                                          refine wpAnyK_done (by kernel_rfl) ?_ _
                                          go_wp2
                                          go_meet
                                          case rel => exact ⟨b4, b5, ae', ce', am', cm', a7, c7, fun b => R b ∨ RN b, rfl, rfl, rfl, MID.out.join XC.out RC.out RNL.out, A24.out, A25.out, RI.out, XC.out⟩
                                        · exact AllReadyK.nil
                                      · exact AllReadyK.nil
                                    · exact AllReadyK.nil
                                  · exact AllReadyK.nil
                                · exact AllReadyK.nil
                              · exact AllReadyK.nil
                          case rest =>
                            as_aux_lemma =>
                              obtain ⟨b4, b5, ae', ce', am', cm', a7, c7, R', rfl, rfl, rfl, MD, B4, B5, RI, X4⟩ := hcut
                              obtain ⟨wq, rfl⟩ : ∃ W, W = wc := ⟨wc, rfl⟩
                              have cbq := CB.out.ext X4.out
                              have owq := OW4.out.ext X4.out
                              obtain ⟨avc, cvc, hvc⟩ := MID.out.cps.form
                              subst hvc
                              have q1 := cbq.cell
                              have q2 := B5.out.cell
                              have k1 := MD.out.ext.cellSome HR1.out
                              have e5 : (oe != oe) = false := by simp
                              have CBQ := Lib.hid cbq
                              have OWQ := Lib.hid owq
                              clear cbq owq
                              clear CB OW4 X4 MID
                              go_upto_region 28 with (first
                                | (go_at_call 27
                                   refine (sameCopy_true og os (oC d seen).errs (oC d seen).moves _ _ _ _ wq (by rw [HNE.out]; exact Sl.of_owns (by have := MD.out.re; rw [← HNE.out] at this ⊢; exact this)) (Sl.of_owns (by have := MD.out.rm; rw [← HNM.out] at this; exact this)) RI.out.1 RI.out.2).mono ?_
                                   rintro e w5 ⟨rfl, hx5⟩
                                   have k2 := hx5.cellSome k1
                                   have m5 := MD.out.ext1 hx5
                                   have b45 := B4.out.ext hx5
                                   have b55 := B5.out.ext hx5
                                   have cb5 := CBQ.out.ext hx5
                                   have ow5 := OWQ.out.ext hx5
                                   clear MD B4 B5 CBQ OWQ RI
                                   have MD := Lib.hid m5
                                   have B4 := Lib.hid b45
                                   have B5 := Lib.hid b55
                                   have CBQ := Lib.hid cb5
                                   have OWQ := Lib.hid ow5
                                   clear m5 b45 b55 cb5 ow5
                                   clear hx5 k1 q1 q2)
                                | (go_at_call 13
                                   refine (sameInts_true seen _ _ w5 OWQ.out (HRI.out.ext MD.out.ext)).mono ?_
                                   rintro e w6 ⟨rfl, hx6⟩
                                   have m6 := MD.out.ext1 hx6
                                   have b46 := B4.out.ext hx6
                                   have b56 := B5.out.ext hx6
                                   have cb6 := CBQ.out.ext hx6
                                   clear MD B4 B5 CBQ OWQ k2
                                   have MD := Lib.hid m6
                                   have B4 := Lib.hid b46
                                   have B5 := Lib.hid b56
                                   have CBQ := Lib.hid cb6
                                   clear m6 b46 b56 cb6
                                   clear hx6))
                              obtain ⟨wn2, hwn2⟩ : ∃ n, n = wst (oD d seen) := ⟨_, rfl⟩
                              obtain ⟨wb, hwb⟩ : ∃ b, b = (decide ((d.copies.length:Int) < (n7:Int)) && !og) := ⟨_, rfl⟩
                              have hod := oD_len d seen
                              rw [← HN7.out, ← hwn2, ← HOG.out, ← HWN.out] at hod
                              have hn7l : n7 ≤ d.copies.length + 1 := by rcases hod with h | h <;> omega
                              have hwv : wn2 = wn + if wb = true then 1 else 0 := by
                                rcases hod with ⟨h1, h2⟩ | ⟨h1, h2⟩
                                · rw [h2, hwb, decide_eq_true (by omega)]; cases og <;> rfl
                                · rw [h2, hwb, decide_eq_false (by omega)]; rfl
                              have HWN2 := Lib.hid hwn2
                              have HWB := Lib.hid hwb
                              have HWV := Lib.hid hwv
                              clear hwn2 hwb hwv
                              clear hod q2
                              have q1 := B4.out.cell
                              have q2 := B5.out.cell
                              have q3 := MD.out.tbk.cell
                              go_cut [168] (fun s W => s = .bool wb ∧ Hid (W = w6))
                              case first =>
                                as_aux_lemma =>
                                  by_cases hgt : (d.copies.length:Int) < (n7:Int)
                                  · have e6 : decide ((d.copies.length:Int) < (n7:Int)) = true := decide_eq_true hgt
                                    have e7 : wb = !og := by rw [HWB.out, e6]; rfl
                                    have e6' : decide (d.copies.length < n7) = true := decide_eq_true (by omega)
                                    have E7 := Lib.hid e7
                                    clear e7
                                    clear hgt
                                    go_wp2
                                    go_meet
                                    case rel => exact ⟨by rw [E7.out], rfl⟩
                                  · have e6 : decide ((d.copies.length:Int) < (n7:Int)) = false := decide_eq_false hgt
                                    have e7 : wb = false := by rw [HWB.out, e6]; rfl
                                    have e6' : decide (d.copies.length < n7) = false := decide_eq_false (by omega)
                                    have E7 := Lib.hid e7
                                    clear e7
                                    clear hgt
                                    go_wp2
                                    go_meet
                                    case rel => exact ⟨by rw [E7.out], rfl⟩
                              case rest =>
                                as_aux_lemma =>
                                  obtain ⟨rfl, HWW⟩ := hcut
                                  obtain rfl := HWW.out
                                  clear HWW
                                  obtain ⟨w6, rfl⟩ : ∃ W, W = wc := ⟨wc, rfl⟩
                                  clear q1 q2 q3
                                  go_upto_if 168 with (fail)
                                  go_cut [19] (fun s W => s = .int .i64 wn2 ∧ Hid (W = w6))
                                  case first =>
                                    as_aux_lemma =>
                                      rename_i hR hK
                                      cases wb
                                      · have e8 : wn2 = wn := by rw [HWV.out]; rfl
                                        have E8 := Lib.hid e8
                                        clear e8
                                        refine wp_cond_false rfl ?_
                                        refine wp_skip ?_
                                        refine hK _ _ ?_
                                        go_meet
                                        case rel => exact ⟨by rw [E8.out], rfl⟩
                                      · have e8 : wn2 = wn + 1 := by rw [HWV.out]; rfl
                                        have e9 : IntKind.i64.wrap ((wn:Int) + 1) = (wn:Int) + 1 := i64_eq _ (by omega)
                                        have E8 := Lib.hid e8
                                        clear e8
                                        refine wp_cond_true rfl ?_
                                        go_wp2
                                        go_meet
                                        case rel => exact ⟨by rw [E8.out]; rfl, rfl⟩
                                  case rest =>
                                    as_aux_lemma =>
                                      obtain ⟨rfl, HWW⟩ := hcut
                                      obtain rfl := HWW.out
                                      clear HWW
                                      obtain ⟨w6, rfl⟩ : ∃ W, W = wc := ⟨wc, rfl⟩
                                      have q1 := B4.out.cell
                                      go_upto_region 31 with (
                                        with_reducible refine wpList_storeK (ty := 71) (cells := #[.slice ap pat.length cp, .slice al l.length cl, .int .i64 d.win, .int .i64 d.limit, .slice a7 n7 c7]) rfl rfl MD.out.tbk ?_ ?_ ?_ ?_ ?_ ?_
                                        · rfl
                                        · rfl
                                        · kernel_rfl
                                        · rfl
                                        · simp [Value.oneCell']
                                        rintro wx hbx hox
                                        obtain ⟨inv, rme, rmm⟩ := MD.out.done IN5.out.dk IN5.out.hp IN5.out.hl hbx hox
                                        have cbx := CBQ.out.only hox (fun (e : cb = tb) => by omega)
                                        rw [← HNE.out] at rme
                                        rw [← HNM.out] at rmm
                                        have hpv : ∀ b, (Value.slice ae ne ce).ownBlock = some b ∨ (Value.slice am nm cm).ownBlock = some b → w.heap.size ≤ b ∧ ρ3 b = 0 ∧ b ≠ tb ∧ ¬ R' b ∧ b ≠ cb := fun b hb => by
                                          have h1 := MD.out.rz b hb
                                          have h2 := HVB.out b hb
                                          refine ⟨?_, h1.1, h1.2, fun hR => (MD.out.r b hR).2.2.2 hb, by omega⟩
                                          rcases hb with hb | hb
                                          · exact (MD.out.re.lt b hb).1
                                          · exact (MD.out.rm.lt b hb).1
                                        clear MD B4 B5 CBQ q1
                                        have INV := Lib.hid inv
                                        have RME := Lib.hid rme
                                        have RMM := Lib.hid rmm
                                        have CBX := Lib.hid cbx
                                        have HPV := Lib.hid hpv
                                        clear inv rme rmm cbx hpv
                                        clear hbx hox)
                                      obtain ⟨wo3, rfl⟩ : ∃ W, W = wr := ⟨wr, rfl⟩
                                      go_wp2
                                      go_loopw [27] (fun t wr => ∃ j : Nat, j ≤ nm ∧ t = .int .i64 j ∧ Hid (DkInv R' w wr db tb (.slice ap pat.length cp) (.slice al l.length cl) (.slice a7 n7 c7) (oD d seen) m3 ρ3) ∧ Hid (Room wr (.slice ae ne ce) ne 1) ∧ Hid (Room wr (.slice am nm cm) nm 1) ∧ Hid (Blk wr cb #[.bool og, .int .i64 os, .slice ae ne ce, .slice am nm cm] 59)) (fun t _ => nm - (intOf t).toNat)
                                      case atStart => exact ⟨0, Nat.zero_le _, rfl, INV.out, RME.out, RMM.out, CBX.out⟩
                                      case round =>
                                        obtain ⟨j, hj, rfl, IV, RE, RM, CX⟩ := hrel
                                        clear INV RME RMM CBX
                                        have hnm12 : nm ≤ 12 := by have h1 := (oC_len d seen).2; rw [← HNM.out] at h1; have h2 := IN5.out.dk.ok.pn; have h3 := IN5.out.dk.ok.p2; omega
                                        by_cases hlt2 : j < nm
                                        · skip
                                          as_aux_lemma =>
                                            have qx := CX.out.cell
                                            go_upto_region 34 with (fail)
                                            clear qx
                                            have X0 : Ext wr wr.drew := Ext.of_drewN wr 1
                                            have iv := IV.out.ext1 X0
                                            have re := RE.out.ext X0
                                            have rm := RM.out.ext X0
                                            have cx := CX.out.ext X0
                                            have jne : j < ne := by have := HNN.out; omega
                                            refine wp_region_K (fun wx => ∀ i, wx.cell? ⟨cb, i, none⟩ = (#[.bool og, .int .i64 os, .slice ae ne ce, .slice am nm cm] : Array Value)[i]?) 9 (by kernel_rfl) cx.cell (fun hHeld => ?_)
                                            generalize wr.drew = wA at *
                                            clear IV RE RM CX X0
                                            have hre := re
                                            have hrm := rm
                                            obtain ⟨ge, ke, cse, te, hve, hbe, hne2⟩ := hre.resolve_left (by omega)
                                            obtain ⟨gm, km, csm, tm, hvm, hbm, hnm2⟩ := hrm.resolve_left (by omega)
                                            cases hve
                                            cases hvm
                                            have hpe := HPV.out ge (.inl rfl)
                                            have hpm := HPV.out gm (.inr rfl)
                                            have q1 := cx.cell
                                            have IV := Lib.hid iv
                                            have RE := Lib.hid re
                                            have RM := Lib.hid rm
                                            have CX := Lib.hid cx
                                            have HBM := Lib.hid hbm
                                            have HPE := Lib.hid hpe
                                            have HPM := Lib.hid hpm
                                            clear iv re rm cx hbm hpe hpm
                                            clear hre hrm hbe hne2 cse te
                                            refine wpAnyK_takeL (i := 0) (v := ?_) rfl (by kernel_rfl) (by kernel_rfl) (by kernel_rfl) (by kernel_rfl) (fun _ _ _ h => h) (Or.inl ⟨by rfl, ?_⟩) hHeld ?_
                                            rotate_left
                                            · intro w hSw; (try dsimp only at hSw); go_simp; (try with_reducible rfl)
                                            try simp only [Act.put, List.setIfInBounds_toArray, List.set_cons_zero, List.set_cons_succ]
                                            refine wpAnyK_takeL (i := 1) (v := ?_) rfl (by kernel_rfl) (by kernel_rfl) (by kernel_rfl) (by kernel_rfl) (fun _ _ _ h => h) (Or.inl ⟨by rfl, ?_⟩) hHeld ?_
                                            rotate_left
                                            · intro w hSw; (try dsimp only at hSw); go_simp; (try with_reducible rfl)
                                            try simp only [Act.put, List.setIfInBounds_toArray, List.set_cons_zero, List.set_cons_succ]
                                            refine wpAnyK_takeL (i := 2) (v := ?_) rfl (by kernel_rfl) (by kernel_rfl) (by kernel_rfl) (by kernel_rfl) (fun _ _ _ h => h) (Or.inl ⟨by rfl, ?_⟩) hHeld ?_
                                            rotate_left
                                            · intro w hSw; (try dsimp only at hSw); go_simp; (try with_reducible rfl)
                                            try simp only [Act.put, List.setIfInBounds_toArray, List.set_cons_zero, List.set_cons_succ]
                                            refine wpAnyK_takeL (i := 3) (v := ?_) rfl (by kernel_rfl) (by kernel_rfl) (by kernel_rfl) (by kernel_rfl) (fun _ _ _ h => h) (Or.inl ⟨by rfl, ?_⟩) hHeld ?_
                                            rotate_left
                                            · intro w hSw; (try dsimp only at hSw); go_simp; (try with_reducible rfl)
                                            try simp only [Act.put, List.setIfInBounds_toArray, List.set_cons_zero, List.set_cons_succ]
                                            refine wpAnyK_takeL (i := 5) (v := ?_) rfl (by kernel_rfl) (by kernel_rfl) (by kernel_rfl) (by kernel_rfl) (fun _ _ _ h => h) (Or.inl ⟨by rfl, ?_⟩) hHeld ?_
                                            rotate_left
                                            · intro w hSw; (try dsimp only at hSw); go_simp; (try with_reducible rfl)
                                            try simp only [Act.put, List.setIfInBounds_toArray, List.set_cons_zero, List.set_cons_succ]
                                            refine wpAnyK_takeL (i := 6) (v := ?_) rfl (by kernel_rfl) (by kernel_rfl) (by kernel_rfl) (by kernel_rfl) (fun _ _ _ h => h) (Or.inl ⟨by rfl, ?_⟩) hHeld ?_
                                            rotate_left
                                            · intro w hSw; (try dsimp only at hSw); go_simp; (try with_reducible rfl)
                                            try simp only [Act.put, List.setIfInBounds_toArray, List.set_cons_zero, List.set_cons_succ]
                                            refine wpAnyK_ready (rs := [4, 7]) (by kernel_rfl) (by simp) ?_
                                            refine AllReadyK.consL (i := 4) rfl (fun K hK => ?_) ?_
                                            · go_simp
                                              refine hK.out _ _ (fun _ => CX.out.cell) (fun hHeld2 => ?_)
                                              clear hK K
                                              try clear hHeld
                                              have hHeld := hHeld2 (by decide)
                                              clear hHeld2
                                              try simp only [Act.put, List.setIfInBounds_toArray, List.set_cons_zero, List.set_cons_succ]
                                              refine wpAnyK_ready (rs := [7]) (by kernel_rfl) (by simp) ?_
                                              refine AllReadyK.consL (i := 7) rfl (fun K hK => ?_) ?_
                                              · refine step_setK (b := gm) (i := j) (v := .int .i64 7) rfl rfl HBM.out rfl rfl (by omega) (by kernel_rfl) rfl (by simp [Value.oneCell']) ?_
                                                intro w1 hw1 hb1 ho1
                                                clear hw1
                                                have hsz : (csm.setIfInBounds j (.int .i64 7)).size = csm.size := by simp
                                                have re1 := RE.out.put HBM.out hb1 hsz ho1
                                                have rm1 := RM.out.put HBM.out hb1 hsz ho1
                                                have cx1 := CX.out.only ho1 (fun (e : cb = gm) => HPM.out.2.2.2.2 e.symm)
                                                have iv1 := IV.out.only ho1 (fun b (e : b = gm) => by rw [e]; exact ⟨HPM.out.1, HPM.out.2.1, HPM.out.2.2.1, HPM.out.2.2.2.1⟩)
                                                clear IV RE RM CX HBM q1
                                                have q1 := cx1.cell
                                                have IV := Lib.hid iv1
                                                have RE := Lib.hid re1
                                                have RM := Lib.hid rm1
                                                have CX := Lib.hid cx1
                                                clear iv1 re1 rm1 cx1
                                                clear hb1 ho1 hsz
                                                refine hK.out _ _ (fun _ => CX.out.cell) (fun hHeld2 => ?_)
                                                clear hK K
                                                try clear hHeld
                                                have hHeld := hHeld2 (by decide)
                                                clear hHeld2
                                                try simp only [Act.put, List.setIfInBounds_toArray, List.set_cons_zero, List.set_cons_succ]
                                                refine wpAnyK_takeL (i := 8) (v := ?_) rfl (by kernel_rfl) (by kernel_rfl) (by kernel_rfl) (by kernel_rfl) (fun _ _ _ h => h) (Or.inl ⟨by rfl, ?_⟩) hHeld ?_
                                                rotate_left
                                                · intro w hSw; (try dsimp only at hSw); go_simp; (try with_reducible rfl)
                                                try simp only [Act.put, List.setIfInBounds_toArray, List.set_cons_zero, List.set_cons_succ]
                                                have hre2 := RE.out
                                                obtain ⟨ge2, ke2, cse2, te2, hve2, hbe2, hne3⟩ := hre2.resolve_left (by omega)
                                                cases hve2
                                                clear hre2
                                                have HBE := Lib.hid hbe2
                                                clear hbe2
                                                refine wpAnyK_ready (rs := [9]) (by kernel_rfl) (by simp) ?_
                                                refine AllReadyK.consL (i := 9) rfl (fun K hK => ?_) ?_
                                                · refine step_setK (b := ge) (i := j) (v := .int .i64 7) rfl rfl HBE.out rfl rfl (by omega) (by kernel_rfl) rfl (by simp [Value.oneCell']) ?_
                                                  intro w1 hw1 hb1 ho1
                                                  clear hw1
                                                  have hsz : (cse2.setIfInBounds j (.int .i64 7)).size = cse2.size := by simp
                                                  have re1 := RE.out.put HBE.out hb1 hsz ho1
                                                  have rm1 := RM.out.put HBE.out hb1 hsz ho1
                                                  have cx1 := CX.out.only ho1 (fun (e : cb = ge) => HPE.out.2.2.2.2 e.symm)
                                                  have iv1 := IV.out.only ho1 (fun b (e : b = ge) => by rw [e]; exact ⟨HPE.out.1, HPE.out.2.1, HPE.out.2.2.1, HPE.out.2.2.2.1⟩)
                                                  clear IV RE RM CX HBE q1
                                                  have IV := Lib.hid iv1
                                                  have RE := Lib.hid re1
                                                  have RM := Lib.hid rm1
                                                  have CX := Lib.hid cx1
                                                  clear iv1 re1 rm1 cx1
                                                  clear hb1 ho1 hsz
                                                  refine hK.out _ _ (fun h => absurd h (by decide)) (fun hHeld2 => ?_)
                                                  clear hK K hHeld2
                                                  try clear hHeld
                                                  try simp only [Act.put, List.setIfInBounds_toArray, List.set_cons_zero, List.set_cons_succ]
                                                  refine wpAnyK_done (by kernel_rfl) ?_ _
                                                  go_wp2
                                                  go_roundw
                                                  case rel => exact ⟨j + 1, by omega, by go_num, IV.out, RE.out, RM.out, CX.out⟩
                                                  case measure => first | (simp [intOf]; done) | (simp [intOf]; omega)
                                                · exact AllReadyK.nil
                                              · exact AllReadyK.nil
                                            refine AllReadyK.consL (i := 7) rfl (fun K hK => ?_) ?_
                                            · refine step_setK (b := gm) (i := j) (v := .int .i64 7) rfl rfl HBM.out rfl rfl (by omega) (by kernel_rfl) rfl (by simp [Value.oneCell']) ?_
                                              intro w1 hw1 hb1 ho1
                                              clear hw1
                                              have hsz : (csm.setIfInBounds j (.int .i64 7)).size = csm.size := by simp
                                              have re1 := RE.out.put HBM.out hb1 hsz ho1
                                              have rm1 := RM.out.put HBM.out hb1 hsz ho1
                                              have cx1 := CX.out.only ho1 (fun (e : cb = gm) => HPM.out.2.2.2.2 e.symm)
                                              have iv1 := IV.out.only ho1 (fun b (e : b = gm) => by rw [e]; exact ⟨HPM.out.1, HPM.out.2.1, HPM.out.2.2.1, HPM.out.2.2.2.1⟩)
                                              clear IV RE RM CX HBM q1
                                              have q1 := cx1.cell
                                              have IV := Lib.hid iv1
                                              have RE := Lib.hid re1
                                              have RM := Lib.hid rm1
                                              have CX := Lib.hid cx1
                                              clear iv1 re1 rm1 cx1
                                              clear hb1 ho1 hsz
                                              refine hK.out _ _ (fun _ => CX.out.cell) (fun hHeld2 => ?_)
                                              clear hK K
                                              try clear hHeld
                                              have hHeld := hHeld2 (by decide)
                                              clear hHeld2
                                              try simp only [Act.put, List.setIfInBounds_toArray, List.set_cons_zero, List.set_cons_succ]
                                              refine wpAnyK_ready (rs := [4]) (by kernel_rfl) (by simp) ?_
                                              refine AllReadyK.consL (i := 4) rfl (fun K hK => ?_) ?_
                                              · go_simp
                                                refine hK.out _ _ (fun _ => CX.out.cell) (fun hHeld2 => ?_)
                                                clear hK K
                                                try clear hHeld
                                                have hHeld := hHeld2 (by decide)
                                                clear hHeld2
                                                try simp only [Act.put, List.setIfInBounds_toArray, List.set_cons_zero, List.set_cons_succ]
                                                refine wpAnyK_takeL (i := 8) (v := ?_) rfl (by kernel_rfl) (by kernel_rfl) (by kernel_rfl) (by kernel_rfl) (fun _ _ _ h => h) (Or.inl ⟨by rfl, ?_⟩) hHeld ?_
                                                rotate_left
                                                · intro w hSw; (try dsimp only at hSw); go_simp; (try with_reducible rfl)
                                                try simp only [Act.put, List.setIfInBounds_toArray, List.set_cons_zero, List.set_cons_succ]
                                                have hre2 := RE.out
                                                obtain ⟨ge2, ke2, cse2, te2, hve2, hbe2, hne3⟩ := hre2.resolve_left (by omega)
                                                cases hve2
                                                clear hre2
                                                have HBE := Lib.hid hbe2
                                                clear hbe2
                                                refine wpAnyK_ready (rs := [9]) (by kernel_rfl) (by simp) ?_
                                                refine AllReadyK.consL (i := 9) rfl (fun K hK => ?_) ?_
                                                · refine step_setK (b := ge) (i := j) (v := .int .i64 7) rfl rfl HBE.out rfl rfl (by omega) (by kernel_rfl) rfl (by simp [Value.oneCell']) ?_
                                                  intro w1 hw1 hb1 ho1
                                                  clear hw1
                                                  have hsz : (cse2.setIfInBounds j (.int .i64 7)).size = cse2.size := by simp
                                                  have re1 := RE.out.put HBE.out hb1 hsz ho1
                                                  have rm1 := RM.out.put HBE.out hb1 hsz ho1
                                                  have cx1 := CX.out.only ho1 (fun (e : cb = ge) => HPE.out.2.2.2.2 e.symm)
                                                  have iv1 := IV.out.only ho1 (fun b (e : b = ge) => by rw [e]; exact ⟨HPE.out.1, HPE.out.2.1, HPE.out.2.2.1, HPE.out.2.2.2.1⟩)
                                                  clear IV RE RM CX HBE q1
                                                  have IV := Lib.hid iv1
                                                  have RE := Lib.hid re1
                                                  have RM := Lib.hid rm1
                                                  have CX := Lib.hid cx1
                                                  clear iv1 re1 rm1 cx1
                                                  clear hb1 ho1 hsz
                                                  refine hK.out _ _ (fun h => absurd h (by decide)) (fun hHeld2 => ?_)
                                                  clear hK K hHeld2
                                                  try clear hHeld
                                                  try simp only [Act.put, List.setIfInBounds_toArray, List.set_cons_zero, List.set_cons_succ]
                                                  refine wpAnyK_done (by kernel_rfl) ?_ _
                                                  go_wp2
                                                  go_roundw
                                                  case rel => exact ⟨j + 1, by omega, by go_num, IV.out, RE.out, RM.out, CX.out⟩
                                                  case measure => first | (simp [intOf]; done) | (simp [intOf]; omega)
                                                · exact AllReadyK.nil
                                              · exact AllReadyK.nil
                                            · exact AllReadyK.nil
                                        · obtain rfl : j = nm := by omega
                                          as_aux_lemma =>
                                            have cx := CX.out.cell
                                            go_wp2
                                            go_roundw
                                            case rel => exact ⟨i + 1, oD d seen, m3, ρ3, .slice a7 n7 c7, R', by omega, by go_num, by rw [← HN7.out]; omega, by rw [← HWN2.out]; exact rfl, IV.out⟩
                                            case measure => first | (simp [intOf]; done) | (simp [intOf]; omega)
                  · obtain rfl : i = rs.length := by omega
                    as_aux_lemma =>
                      have h12 : d.n ≤ 12 := by have h2 := IN5.out.dk.ok.pn; have h3 := IN5.out.dk.ok.p2; omega
                      have hln : ∀ j, j < d.copies.length → (d.copy j).errs.length ≤ 1000 ∧ (d.copy j).moves.length ≤ 1000 := fun j hj => by have := IN5.out.dk.ml j hj; omega
                      have hww : wasteN d.copies d.copies.length = wn := HWN.out.symm
                      obtain ⟨B0, hB0⟩ : ∃ B, B = wr.heap.size := ⟨_, rfl⟩
                      have HLN := Lib.hid hln
                      have HWW := Lib.hid hww
                      have HB0 := Lib.hid hB0
                      clear hln hww hB0
                      clear hlt
                      go_upto_region 37 with (first
                        | (go_at_call 28
                           refine (copies_any db d m2 ρ2 wr IN5.out.st (by omega) HLN.out).mono ?_
                           rintro e w1 ⟨va, es, ms, τ, rfl, hcs, hx1⟩
                           obtain ⟨a6, c6, rfl⟩ := owns_form hcs.row.1
                           have in1 := IN5.out.ext1 hx1
                           have cf1 := hcs.from
                           rw [← HB0.out] at cf1
                           have htz : ∀ b, τ b ≠ 0 → w.heap.size ≤ b ∧ ρ2 b = 0 ∧ b ≠ tb ∧ ¬ R b := fun b hb => by
                             have h1 := hcs.hlo b hb
                             refine ⟨Nat.le_trans IN5.out.ext.size h1, Decidable.byContradiction fun h => by have := IN5.out.st.hlt b h; omega, fun e => by have := IN5.out.tbk.lt; omega, fun h => by have := (IN5.out.r b h).2.2; omega⟩
                           have IN6 := Lib.hid in1
                           have CF := Lib.hid cf1
                           have HTZ := Lib.hid htz
                           clear in1 cf1 htz
                           clear hcs hx1)
                        | (go_at_call 29
                           refine (waste_any db d m2 ρ2 w1 IN6.out.st (by omega)).mono ?_
                           rintro e w2 ⟨rfl, hx2⟩
                           rw [HWW.out]
                           have in2 := IN6.out.ext1 hx2
                           have cf2 := CF.out.ext hx2
                           clear IN6 CF
                           have IN6 := Lib.hid in2
                           have CF := Lib.hid cf2
                           clear in2 cf2
                           clear hx2))
                      obtain ⟨a8, c8, hv8⟩ := IN6.out.cps.form
                      subst hv8
                      have q1 := IN6.out.tbk.cell
                      have e1 : ((wn:Int) != (wn:Int)) = false := by simp
                      have e2 : ((d.copies.length:Int) != (d.copies.length:Int)) = false := by simp
                      go_upto_region 39 with (fail)
                      clear e1 e2 q1
                      go_wp2
                      go_loopw [30] (fun t wr => ∃ i : Nat, i ≤ d.copies.length ∧ t = .int .i64 i ∧ Hid (DkInv R w wr db tb (.slice ap pat.length cp) (.slice al l.length cl) (.slice a8 d.copies.length c8) d m2 ρ2) ∧ Hid (CpFrom B0 wr d.copies i (.slice a6 d.copies.length c6) es ms τ)) (fun t _ => d.copies.length - (intOf t).toNat)
                      case atStart => exact ⟨0, Nat.zero_le _, rfl, IN6.out, CF.out⟩
                      case round =>
                        obtain ⟨i, hi2, rfl, IV, CQ⟩ := hrel
                        clear IN6 CF
                        by_cases hlt : i < d.copies.length
                        · skip
                          as_aux_lemma =>
                            obtain ⟨g, c, ae, ce, am, cm, hv1, hve, hvm, hτg, hcell, hi1, hi3, hrm, hown⟩ := CQ.out.at hlt
                            obtain ⟨b, o, c', ae', ce', am', cm', hv2, hcell', hi1', hi3'⟩ := IV.out.cps.at hlt
                            cases hv1
                            cases hv2
                            obtain ⟨x, hx⟩ : ∃ x, x = d.copies.getD i default := ⟨_, rfl⟩
                            rw [← hx] at hcell hi1 hi3 hrm hown hcell' hi1' hi3'
                            obtain ⟨xg, hxg⟩ : ∃ y, x.good = y := ⟨_, rfl⟩
                            obtain ⟨xs, hxs⟩ : ∃ y, x.shift = y := ⟨_, rfl⟩
                            obtain ⟨xe, hxe⟩ : ∃ y, x.errs = y := ⟨_, rfl⟩
                            obtain ⟨xm, hxm⟩ : ∃ y, x.moves = y := ⟨_, rfl⟩
                            have hxl : xe.length ≤ 1000 := by rw [← hxe, hx]; exact (HLN.out i hlt).1
                            unfold cpC at hcell hcell'
                            rw [hxe] at hi1 hi1' hrm hown
                            rw [hxm] at hi3 hi3'
                            rw [hxg, hxs, hxe, hxm] at hcell hcell'
                            have k0 : wr.cell? ⟨g, i * 4, none⟩ = some (.bool xg) := hcell 0 (by omega)
                            have k1 : wr.cell? ⟨g, i * 4 + 1, none⟩ = some (.int .i64 xs) := hcell 1 (by omega)
                            have k2 : wr.cell? ⟨g, i * 4 + 2, none⟩ = some (.slice ae xe.length ce) := hcell 2 (by omega)
                            have k3 : wr.cell? ⟨g, i * 4 + 3, none⟩ = some (.slice am xm.length cm) := hcell 3 (by omega)
                            have k4 : wr.cell? ⟨b, o + i * 4, none⟩ = some (.bool xg) := hcell' 0 (by omega)
                            have k5 : wr.cell? ⟨b, o + i * 4 + 1, none⟩ = some (.int .i64 xs) := hcell' 1 (by omega)
                            have k6 : wr.cell? ⟨b, o + i * 4 + 2, none⟩ = some (.slice ae' xe.length ce') := hcell' 2 (by omega)
                            have k7 : wr.cell? ⟨b, o + i * 4 + 3, none⟩ = some (.slice am' xm.length cm') := hcell' 3 (by omega)
                            have q1 := IV.out.tbk.cell
                            have K0 := Lib.hid k0
                            have K1 := Lib.hid k1
                            have K2 := Lib.hid k2
                            have K3 := Lib.hid k3
                            have K4 := Lib.hid k4
                            have K5 := Lib.hid k5
                            have K6 := Lib.hid k6
                            have K7 := Lib.hid k7
                            have Q1 := Lib.hid q1
                            have I1 := Lib.hid hi1
                            have I3 := Lib.hid hi3
                            have J1 := Lib.hid hi1'
                            have J3 := Lib.hid hi3'
                            have RM := Lib.hid hrm
                            have OWN := Lib.hid hown
                            have TG := Lib.hid hτg
                            clear k0 k1 k2 k3 k4 k5 k6 k7 q1 hi1 hi3 hi1' hi3' hrm hown hτg
                            clear hcell hcell' hxg hxs hxe hxm hx hve hvm
                            go_upto_region 42 with (fail)
                            have X0 : Ext wr wr.drew := Ext.of_drewN wr 1
                            have XC := Lib.hid X0
                            clear X0
                            refine wp_region_K (fun wx => (wx.cell? ⟨g, i * 4, none⟩ = some (.bool xg) ∧ wx.cell? ⟨g, i * 4 + 1, none⟩ = some (.int .i64 xs) ∧ wx.cell? ⟨g, i * 4 + 2, none⟩ = some (.slice ae xe.length ce) ∧ wx.cell? ⟨g, i * 4 + 3, none⟩ = some (.slice am xm.length cm)) ∧
                                (wx.cell? ⟨b, o + i * 4, none⟩ = some (.bool xg) ∧ wx.cell? ⟨b, o + i * 4 + 1, none⟩ = some (.int .i64 xs) ∧ wx.cell? ⟨b, o + i * 4 + 2, none⟩ = some (.slice ae' xe.length ce') ∧ wx.cell? ⟨b, o + i * 4 + 3, none⟩ = some (.slice am' xm.length cm')) ∧
                                (∀ i, wx.cell? ⟨tb, i, none⟩ = (#[.slice ap pat.length cp, .slice al l.length cl, .int .i64 d.win, .int .i64 d.limit, .slice (some ⟨b, o, none⟩) d.copies.length c8] : Array Value)[i]?)) 11 (by kernel_rfl)
                              ⟨⟨XC.out.cellSome K0.out, XC.out.cellSome K1.out, XC.out.cellSome K2.out, XC.out.cellSome K3.out⟩, ⟨XC.out.cellSome K4.out, XC.out.cellSome K5.out, XC.out.cellSome K6.out, XC.out.cellSome K7.out⟩, (IV.out.ext1 XC.out).tbk.cell⟩ (fun hHeld => ?_)
                            generalize wr.drew = wA at *
                            refine wpAnyK_takeL (i := 0) (v := ?_) rfl (by kernel_rfl) (by kernel_rfl) (by kernel_rfl) (by kernel_rfl) (fun _ _ _ h => h) (Or.inl ⟨by rfl, ?_⟩) hHeld ?_
                            rotate_left
                            · intro w hSw; (try dsimp only at hSw); go_simp; (try with_reducible rfl)
                            try simp only [Act.put, List.setIfInBounds_toArray, List.set_cons_zero, List.set_cons_succ]
                            refine wpAnyK_takeL (i := 1) (v := ?_) rfl (by kernel_rfl) (by kernel_rfl) (by kernel_rfl) (by kernel_rfl) (fun _ _ _ h => h) (Or.inl ⟨by rfl, ?_⟩) hHeld ?_
                            rotate_left
                            · intro w hSw; (try dsimp only at hSw); go_simp; (try with_reducible rfl)
                            try simp only [Act.put, List.setIfInBounds_toArray, List.set_cons_zero, List.set_cons_succ]
                            refine wpAnyK_takeL (i := 2) (v := ?_) rfl (by kernel_rfl) (by kernel_rfl) (by kernel_rfl) (by kernel_rfl) (fun _ _ _ h => h) (Or.inl ⟨by rfl, ?_⟩) hHeld ?_
                            rotate_left
                            · intro w hSw; (try dsimp only at hSw); go_simp; (try with_reducible rfl)
                            try simp only [Act.put, List.setIfInBounds_toArray, List.set_cons_zero, List.set_cons_succ]
                            refine wpAnyK_takeL (i := 3) (v := ?_) rfl (by kernel_rfl) (by kernel_rfl) (by kernel_rfl) (by kernel_rfl) (fun _ _ _ h => h) (Or.inl ⟨by rfl, ?_⟩) hHeld ?_
                            rotate_left
                            · intro w hSw; (try dsimp only at hSw); go_simp; (try with_reducible rfl)
                            try simp only [Act.put, List.setIfInBounds_toArray, List.set_cons_zero, List.set_cons_succ]
                            refine wpAnyK_takeL (i := 4) (v := ?_) rfl (by kernel_rfl) (by kernel_rfl) (by kernel_rfl) (by kernel_rfl) (fun _ _ _ h => h) (Or.inl ⟨by rfl, ?_⟩) hHeld ?_
                            rotate_left
                            · intro w hSw; (try dsimp only at hSw); go_simp; (try with_reducible rfl)
                            try simp only [Act.put, List.setIfInBounds_toArray, List.set_cons_zero, List.set_cons_succ]
                            refine wpAnyK_takeL (i := 5) (v := ?_) rfl (by kernel_rfl) (by kernel_rfl) (by kernel_rfl) (by kernel_rfl) (fun _ _ _ h => h) (Or.inl ⟨by rfl, ?_⟩) hHeld ?_
                            rotate_left
                            · intro w hSw; (try dsimp only at hSw); go_simp; (try with_reducible rfl)
                            try simp only [Act.put, List.setIfInBounds_toArray, List.set_cons_zero, List.set_cons_succ]
                            refine wpAnyK_takeL (i := 6) (v := ?_) rfl (by kernel_rfl) (by kernel_rfl) (by kernel_rfl) (by kernel_rfl) (fun _ _ _ h => h) (Or.inl ⟨by rfl, ?_⟩) hHeld ?_
                            rotate_left
                            · intro w hSw; (try dsimp only at hSw); go_simp; (try with_reducible rfl)
                            try simp only [Act.put, List.setIfInBounds_toArray, List.set_cons_zero, List.set_cons_succ]
                            refine wpAnyK_takeL (i := 7) (v := ?_) rfl (by kernel_rfl) (by kernel_rfl) (by kernel_rfl) (by kernel_rfl) (fun _ _ _ h => h) (Or.inl ⟨by rfl, ?_⟩) hHeld ?_
                            rotate_left
                            · intro w hSw; (try dsimp only at hSw); go_simp; (try with_reducible rfl)
                            try simp only [Act.put, List.setIfInBounds_toArray, List.set_cons_zero, List.set_cons_succ]
                            refine wpAnyK_takeL (i := 8) (v := ?_) rfl (by kernel_rfl) (by kernel_rfl) (by kernel_rfl) (by kernel_rfl) (fun _ _ _ h => h) (Or.inl ⟨by rfl, ?_⟩) hHeld ?_
                            rotate_left
                            · intro w hSw; (try dsimp only at hSw); go_simp; (try with_reducible rfl)
                            try simp only [Act.put, List.setIfInBounds_toArray, List.set_cons_zero, List.set_cons_succ]
                            refine wpAnyK_ready (rs := [9]) (by kernel_rfl) (by simp) ?_
                            refine AllReadyK.consL (i := 9) rfl (fun K hK => ?_) ?_
                            · refine step_call (vs := #[.agg #[.bool xg, .int .i64 xs, .slice ae xe.length ce, .slice am xm.length cm], .agg #[.bool xg, .int .i64 xs, .slice ae' xe.length ce', .slice am' xm.length cm']]) rfl rfl rfl Try.func27 (by kernel_rfl) (by kernel_rfl) (sameCopy_true xg xs xe xm _ _ _ _ wA (I1.out.ext XC.out) (I3.out.ext XC.out) (J1.out.ext XC.out) (J3.out.ext XC.out)) ?_
                              rintro e w7 ⟨rfl, hx7⟩
                              refine ⟨_, rfl, ?_⟩
                              replace XC := Lib.hid (XC.out.tr hx7)
                              clear hx7
                              refine hK.out _ _ (fun _ => ⟨⟨XC.out.cellSome K0.out, XC.out.cellSome K1.out, XC.out.cellSome K2.out, XC.out.cellSome K3.out⟩, ⟨XC.out.cellSome K4.out, XC.out.cellSome K5.out, XC.out.cellSome K6.out, XC.out.cellSome K7.out⟩, (IV.out.ext1 XC.out).tbk.cell⟩) (fun hHeld2 => ?_)
                              clear hK K
                              try clear hHeld
                              have hHeld := hHeld2 (by decide)
                              clear hHeld2
                              try simp only [Act.put, List.setIfInBounds_toArray, List.set_cons_zero, List.set_cons_succ]
                              refine wpAnyK_ready (rs := [10]) (by kernel_rfl) (by simp) ?_
                              refine AllReadyK.consL (i := 10) rfl (fun K hK => ?_) ?_
                              · go_simp
                                refine hK.out _ _ (fun _ => ⟨⟨XC.out.cellSome K0.out, XC.out.cellSome K1.out, XC.out.cellSome K2.out, XC.out.cellSome K3.out⟩, ⟨XC.out.cellSome K4.out, XC.out.cellSome K5.out, XC.out.cellSome K6.out, XC.out.cellSome K7.out⟩, (IV.out.ext1 XC.out).tbk.cell⟩) (fun hHeld2 => ?_)
                                clear hK K
                                try clear hHeld
                                have hHeld := hHeld2 (by decide)
                                clear hHeld2
                                try simp only [Act.put, List.setIfInBounds_toArray, List.set_cons_zero, List.set_cons_succ]
                                refine wpAnyK_done (by kernel_rfl) ?_ _
                                have iv1 := IV.out.ext1 XC.out
                                have cq1 := CQ.out.ext XC.out
                                have rm1 := RM.out.ext XC.out
                                have k2' := XC.out.cellSome K2.out
                                have IV1 := Lib.hid iv1
                                have CQ1 := Lib.hid cq1
                                have RM1 := Lib.hid rm1
                                have K2B := Lib.hid k2'
                                clear iv1 cq1 rm1 k2'
                                clear IV CQ RM K0 K1 K2 K3 K4 K5 K6 K7 Q1 I1 I3 J1 J3 XC
                                obtain ⟨wo4, rfl⟩ : ∃ W, W = wr := ⟨wr, rfl⟩
                                go_wp2
                                go_loopw [31] (fun t wr => ∃ q : Nat, q ≤ xe.length ∧ t = .int .i64 q ∧ Hid (Only (fun b => τ b = 2 + 2 * i) w7 wr) ∧ Hid (Room wr (.slice ae xe.length ce) xe.length 1)) (fun t _ => xe.length - (intOf t).toNat)
                                case atStart => exact ⟨0, Nat.zero_le _, rfl, Only.refl _ _, RM1.out⟩
                                case round =>
                                  obtain ⟨q, hq, rfl, ON, RQ⟩ := hrel
                                  clear RM1
                                  have k2 := ON.out.cell K2B.out (fun (e : τ g = 2 + 2 * i) => by have := TG.out; omega)
                                  by_cases hlt3 : q < xe.length
                                  · obtain ⟨ge, ke, cse, te, hve, hbe, hne⟩ := RQ.out.resolve_left (by omega)
                                    cases hve
                                    have ht := OWN.out ge rfl
                                    have HB := Lib.hid hbe
                                    have HT := Lib.hid ht
                                    clear hbe ht
                                    go_wp2_with (
                                      with_reducible refine wpList_setK (b := ge) (i := q) (v := .int .i64 5) rfl rfl HB.out ?_ ?_ ?_ ?_ ?_ ?_ ?_
                                      · rfl
                                      · rfl
                                      · omega
                                      · kernel_rfl
                                      · rfl
                                      · simp [Value.oneCell']
                                      rintro wx hbx hox
                                      have hsz : (cse.setIfInBounds q (.int .i64 5)).size = cse.size := by simp
                                      have rq2 := RQ.out.put HB.out hbx hsz hox
                                      have on2 := ON.out.tr (hox.weak fun b _ (e : b = ge) => by rw [e]; exact HT.out)
                                      have RQ2 := Lib.hid rq2
                                      have ON2 := Lib.hid on2
                                      clear rq2 on2
                                      clear hbx hox hsz)
                                    go_roundw
                                    case rel => exact ⟨q + 1, by omega, by go_num, ON2.out, RQ2.out⟩
                                    case measure => first | (simp [intOf]; done) | (simp [intOf]; omega)
                                  · obtain rfl : q = xe.length := by omega
                                    go_wp2
                                    go_roundw
                                    case rel => exact ⟨i + 1, by omega, by go_num, IV1.out.only ON.out (fun b hb => HTZ.out b (by omega)), CQ1.out.next ON.out⟩
                                    case measure => first | (simp [intOf]; done) | (simp [intOf]; omega)
                              · exact AllReadyK.nil
                            · exact AllReadyK.nil
                        · obtain rfl : i = d.copies.length := by omega
                          as_aux_lemma =>
                            clear hlt CQ
                            go_upto_region 49 with (
                              go_at_call 28
                              refine (copies_any db d m2 ρ2 wr IV.out.st (by omega) HLN.out).mono ?_
                              rintro e w5 ⟨va, es2, ms2, τ2, rfl, hcs, hx5⟩
                              obtain ⟨a9, c9, rfl⟩ := owns_form hcs.row.1
                              have iv5 := IV.out.ext1 hx5
                              have cf5 := hcs.from
                              clear IV
                              have IV := Lib.hid iv5
                              have CQ := Lib.hid cf5
                              clear iv5 cf5
                              clear hcs hx5)
                            have e3 : ((d.copies.length:Int) == (d.copies.length:Int)) = true := by simp
                            have X0 : Ext w5 w5.drew := Ext.of_drewN w5 1
                            have XC := Lib.hid X0
                            clear X0
                            by_cases h0 : d.copies.length = 0
                            · rw [h0]
                              clear e3
                              refine wp_region_K (fun wx => True) 24 (by kernel_rfl) trivial (fun hHeld => ?_)
                              generalize w5.drew = wA at *
                              refine wpAnyK_takeL (i := 0) (v := ?_) rfl (by kernel_rfl) (by kernel_rfl) (by kernel_rfl) (by kernel_rfl) (fun _ _ _ h => h) (Or.inl ⟨by rfl, ?_⟩) hHeld ?_
                              rotate_left
                              · intro w hSw; (try dsimp only at hSw); go_simp; (try with_reducible rfl)
                              try simp only [Act.put, List.setIfInBounds_toArray, List.set_cons_zero, List.set_cons_succ]
                              refine wpAnyK_takeL (i := 1) (v := ?_) rfl (by kernel_rfl) (by kernel_rfl) (by kernel_rfl) (by kernel_rfl) (fun _ _ _ h => h) (Or.inl ⟨by rfl, ?_⟩) hHeld ?_
                              rotate_left
                              · intro w hSw; (try dsimp only at hSw); go_simp; (try with_reducible rfl)
                              try simp only [Act.put, List.setIfInBounds_toArray, List.set_cons_zero, List.set_cons_succ]
                              refine wpAnyK_takeL (i := 2) (v := ?_) rfl (by kernel_rfl) (by kernel_rfl) (by kernel_rfl) (by kernel_rfl) (fun _ _ _ h => h) (Or.inl ⟨by rfl, ?_⟩) hHeld ?_
                              rotate_left
                              · intro w hSw; (try dsimp only at hSw); go_simp; (try with_reducible rfl)
                              try simp only [Act.put, List.setIfInBounds_toArray, List.set_cons_zero, List.set_cons_succ]
                              refine wpAnyK_takeL (i := 3) (v := ?_) rfl (by kernel_rfl) (by kernel_rfl) (by kernel_rfl) (by kernel_rfl) (fun _ _ _ h => h) (Or.inl ⟨by rfl, ?_⟩) hHeld ?_
                              rotate_left
                              · intro w hSw; (try dsimp only at hSw); go_simp; (try with_reducible rfl)
                              try simp only [Act.put, List.setIfInBounds_toArray, List.set_cons_zero, List.set_cons_succ]
                              refine wpAnyK_takeL (i := 4) (v := ?_) rfl (by kernel_rfl) (by kernel_rfl) (by kernel_rfl) (by kernel_rfl) (fun _ _ _ h => h) (Or.inl ⟨by rfl, ?_⟩) hHeld ?_
                              rotate_left
                              · intro w hSw; (try dsimp only at hSw); go_simp; (try with_reducible rfl)
                              try simp only [Act.put, List.setIfInBounds_toArray, List.set_cons_zero, List.set_cons_succ]
                              refine wpAnyK_takeL (i := 5) (v := ?_) rfl (by kernel_rfl) (by kernel_rfl) (by kernel_rfl) (by kernel_rfl) (fun _ _ _ h => h) (Or.inl ⟨by rfl, ?_⟩) hHeld ?_
                              rotate_left
                              · intro w hSw; (try dsimp only at hSw); go_simp; (try with_reducible rfl)
                              try simp only [Act.put, List.setIfInBounds_toArray, List.set_cons_zero, List.set_cons_succ]
                              refine wpAnyK_takeL (i := 6) (v := ?_) rfl (by kernel_rfl) (by kernel_rfl) (by kernel_rfl) (by kernel_rfl) (fun _ _ _ h => h) (Or.inl ⟨by rfl, ?_⟩) hHeld ?_
                              rotate_left
                              · intro w hSw; (try dsimp only at hSw); go_simp; (try with_reducible rfl)
                              try simp only [Act.put, List.setIfInBounds_toArray, List.set_cons_zero, List.set_cons_succ]
                              refine wpAnyK_takeL (i := 7) (v := ?_) rfl (by kernel_rfl) (by kernel_rfl) (by kernel_rfl) (by kernel_rfl) (fun _ _ _ h => h) (Or.inl ⟨by rfl, ?_⟩) hHeld ?_
                              rotate_left
                              · intro w hSw; (try dsimp only at hSw); go_simp; (try with_reducible rfl)
                              try simp only [Act.put, List.setIfInBounds_toArray, List.set_cons_zero, List.set_cons_succ]
                              refine wpAnyK_takeL (i := 8) (v := ?_) rfl (by kernel_rfl) (by kernel_rfl) (by kernel_rfl) (by kernel_rfl) (fun _ _ _ h => h) (Or.inl ⟨by rfl, ?_⟩) hHeld ?_
                              rotate_left
                              · intro w hSw; (try dsimp only at hSw); go_simp; (try with_reducible rfl)
                              try simp only [Act.put, List.setIfInBounds_toArray, List.set_cons_zero, List.set_cons_succ]
                              refine wpAnyK_takeL (i := 9) (v := ?_) rfl (by kernel_rfl) (by kernel_rfl) (by kernel_rfl) (by kernel_rfl) (fun _ _ _ h => h) (Or.inl ⟨by rfl, ?_⟩) hHeld ?_
                              rotate_left
                              · intro w hSw; (try dsimp only at hSw); go_simp; (try with_reducible rfl)
                              try simp only [Act.put, List.setIfInBounds_toArray, List.set_cons_zero, List.set_cons_succ]
                              refine wpAnyK_takeL (i := 10) (v := undef) rfl (by kernel_rfl) (by kernel_rfl) (by kernel_rfl) (by kernel_rfl) (fun _ _ _ h => h) (Or.inr ⟨by rfl, rfl⟩) hHeld ?_
                              try simp only [Act.put, List.setIfInBounds_toArray, List.set_cons_zero, List.set_cons_succ]
                              refine wpAnyK_takeL (i := 11) (v := undef) rfl (by kernel_rfl) (by kernel_rfl) (by kernel_rfl) (by kernel_rfl) (fun _ _ _ h => h) (Or.inr ⟨by rfl, rfl⟩) hHeld ?_
                              try simp only [Act.put, List.setIfInBounds_toArray, List.set_cons_zero, List.set_cons_succ]
                              refine wpAnyK_takeL (i := 12) (v := undef) rfl (by kernel_rfl) (by kernel_rfl) (by kernel_rfl) (by kernel_rfl) (fun _ _ _ h => h) (Or.inr ⟨by rfl, rfl⟩) hHeld ?_
                              try simp only [Act.put, List.setIfInBounds_toArray, List.set_cons_zero, List.set_cons_succ]
                              refine wpAnyK_takeL (i := 13) (v := undef) rfl (by kernel_rfl) (by kernel_rfl) (by kernel_rfl) (by kernel_rfl) (fun _ _ _ h => h) (Or.inr ⟨by rfl, rfl⟩) hHeld ?_
                              try simp only [Act.put, List.setIfInBounds_toArray, List.set_cons_zero, List.set_cons_succ]
                              refine wpAnyK_takeL (i := 14) (v := undef) rfl (by kernel_rfl) (by kernel_rfl) (by kernel_rfl) (by kernel_rfl) (fun _ _ _ h => h) (Or.inr ⟨by rfl, rfl⟩) hHeld ?_
                              try simp only [Act.put, List.setIfInBounds_toArray, List.set_cons_zero, List.set_cons_succ]
                              refine wpAnyK_takeL (i := 15) (v := undef) rfl (by kernel_rfl) (by kernel_rfl) (by kernel_rfl) (by kernel_rfl) (fun _ _ _ h => h) (Or.inr ⟨by rfl, rfl⟩) hHeld ?_
                              try simp only [Act.put, List.setIfInBounds_toArray, List.set_cons_zero, List.set_cons_succ]
                              refine wpAnyK_takeL (i := 16) (v := undef) rfl (by kernel_rfl) (by kernel_rfl) (by kernel_rfl) (by kernel_rfl) (fun _ _ _ h => h) (Or.inr ⟨by rfl, rfl⟩) hHeld ?_
                              try simp only [Act.put, List.setIfInBounds_toArray, List.set_cons_zero, List.set_cons_succ]
                              refine wpAnyK_takeL (i := 17) (v := undef) rfl (by kernel_rfl) (by kernel_rfl) (by kernel_rfl) (by kernel_rfl) (fun _ _ _ h => h) (Or.inr ⟨by rfl, rfl⟩) hHeld ?_
                              try simp only [Act.put, List.setIfInBounds_toArray, List.set_cons_zero, List.set_cons_succ]
                              refine wpAnyK_takeL (i := 18) (v := ?_) rfl (by kernel_rfl) (by kernel_rfl) (by kernel_rfl) (by kernel_rfl) (fun _ _ _ h => h) (Or.inl ⟨by rfl, ?_⟩) hHeld ?_
                              rotate_left
                              · intro w hSw; (try dsimp only at hSw); go_simp; (try with_reducible rfl)
                              try simp only [Act.put, List.setIfInBounds_toArray, List.set_cons_zero, List.set_cons_succ]
                              refine wpAnyK_takeL (i := 19) (v := ?_) rfl (by kernel_rfl) (by kernel_rfl) (by kernel_rfl) (by kernel_rfl) (fun _ _ _ h => h) (Or.inl ⟨by rfl, ?_⟩) hHeld ?_
                              rotate_left
                              · intro w hSw; (try dsimp only at hSw); go_simp; (try with_reducible rfl)
                              try simp only [Act.put, List.setIfInBounds_toArray, List.set_cons_zero, List.set_cons_succ]
                              refine wpAnyK_takeL (i := 20) (v := ?_) rfl (by kernel_rfl) (by kernel_rfl) (by kernel_rfl) (by kernel_rfl) (fun _ _ _ h => h) (Or.inl ⟨by rfl, ?_⟩) hHeld ?_
                              rotate_left
                              · intro w hSw; (try dsimp only at hSw); go_simp; (try with_reducible rfl)
                              try simp only [Act.put, List.setIfInBounds_toArray, List.set_cons_zero, List.set_cons_succ]
                              refine wpAnyK_ready (rs := [21]) (by kernel_rfl) (by simp) ?_
                              refine AllReadyK.consL (i := 21) rfl (fun K hK => ?_) ?_
                              · refine step_call (vs := #[]) rfl rfl rfl Try.func9 (by kernel_rfl) (by kernel_rfl) (awake_true _) ?_
                                rintro e w8 ⟨rfl, hx8⟩
                                refine ⟨_, rfl, ?_⟩
                                replace XC := Lib.hid (XC.out.tr hx8)
                                clear hx8
                                refine hK.out _ _ (fun _ => trivial) (fun hHeld2 => ?_)
                                clear hK K
                                try clear hHeld
                                have hHeld := hHeld2 (by decide)
                                clear hHeld2
                                try simp only [Act.put, List.setIfInBounds_toArray, List.set_cons_zero, List.set_cons_succ]
                                refine wpAnyK_takeL (i := 22) (v := ?_) rfl (by kernel_rfl) (by kernel_rfl) (by kernel_rfl) (by kernel_rfl) (fun _ _ _ h => h) (Or.inl ⟨by rfl, ?_⟩) hHeld ?_
                                rotate_left
                                · intro w hSw; (try dsimp only at hSw); go_simp; (try with_reducible rfl)
                                try simp only [Act.put, List.setIfInBounds_toArray, List.set_cons_zero, List.set_cons_succ]
                                refine wpAnyK_ready (rs := [23]) (by kernel_rfl) (by simp) ?_
                                refine AllReadyK.consL (i := 23) rfl (fun K hK => ?_) ?_
                                · go_simp
                                  refine hK.out _ _ (fun _ => trivial) (fun hHeld2 => ?_)
                                  clear hK K
                                  try clear hHeld
                                  have hHeld := hHeld2 (by decide)
                                  clear hHeld2
                                  try simp only [Act.put, List.setIfInBounds_toArray, List.set_cons_zero, List.set_cons_succ]
                                  refine wpAnyK_done (by kernel_rfl) ?_ _
                                  go_wp2
                                  go_ret
                                  exact ⟨rfl, IV.out.ext.tr XC.out⟩
                                · exact AllReadyK.nil
                              · exact AllReadyK.nil
                            · have e4 : ((d.copies.length:Int) == 0) = false := beq_eq_false_iff_ne.2 (by omega)
                              have hpos : 0 < d.copies.length := by omega
                              obtain ⟨g, c, ae, ce, am, cm, hv1, hve, hvm, hτg, hcell, hi1, hi3, hrm, hown⟩ := CQ.out.at hpos
                              obtain ⟨b, o, c', ae', ce', am', cm', hv2, hcell', hi1', hi3'⟩ := IV.out.cps.at hpos
                              cases hv1
                              cases hv2
                              obtain ⟨x, hx⟩ : ∃ x, x = d.copies.getD 0 default := ⟨_, rfl⟩
                              rw [← hx] at hcell hi1 hi3 hcell' hi1' hi3'
                              obtain ⟨xg, hxg⟩ : ∃ y, x.good = y := ⟨_, rfl⟩
                              obtain ⟨xs, hxs⟩ : ∃ y, x.shift = y := ⟨_, rfl⟩
                              obtain ⟨xe, hxe⟩ : ∃ y, x.errs = y := ⟨_, rfl⟩
                              obtain ⟨xm, hxm⟩ : ∃ y, x.moves = y := ⟨_, rfl⟩
                              unfold cpC at hcell hcell'
                              rw [hxe] at hi1 hi1'
                              rw [hxm] at hi3 hi3'
                              rw [hxg, hxs, hxe, hxm] at hcell hcell'
                              have k0 : w5.cell? ⟨g, 0, none⟩ = some (.bool xg) := hcell 0 (by omega)
                              have k1 : w5.cell? ⟨g, 1, none⟩ = some (.int .i64 xs) := hcell 1 (by omega)
                              have k2 : w5.cell? ⟨g, 2, none⟩ = some (.slice ae xe.length ce) := hcell 2 (by omega)
                              have k3 : w5.cell? ⟨g, 3, none⟩ = some (.slice am xm.length cm) := hcell 3 (by omega)
                              have k4 : w5.cell? ⟨b, o, none⟩ = some (.bool xg) := hcell' 0 (by omega)
                              have k5 : w5.cell? ⟨b, o + 1, none⟩ = some (.int .i64 xs) := by have := hcell' 1 (by omega); simpa using this
                              have k6 : w5.cell? ⟨b, o + 2, none⟩ = some (.slice ae' xe.length ce') := by have := hcell' 2 (by omega); simpa using this
                              have k7 : w5.cell? ⟨b, o + 3, none⟩ = some (.slice am' xm.length cm') := by have := hcell' 3 (by omega); simpa using this
                              have K0 := Lib.hid k0
                              have K1 := Lib.hid k1
                              have K2 := Lib.hid k2
                              have K3 := Lib.hid k3
                              have K4 := Lib.hid k4
                              have K5 := Lib.hid k5
                              have K6 := Lib.hid k6
                              have K7 := Lib.hid k7
                              have I1 := Lib.hid hi1
                              have I3 := Lib.hid hi3
                              have J1 := Lib.hid hi1'
                              have J3 := Lib.hid hi3'
                              clear k0 k1 k2 k3 k4 k5 k6 k7 hi1 hi3 hi1' hi3'
                              clear hcell hcell' hxg hxs hxe hxm hx hve hvm hrm hown hτg
                              refine wp_region_K (fun wx => (wx.cell? ⟨g, 0, none⟩ = some (.bool xg) ∧ wx.cell? ⟨g, 1, none⟩ = some (.int .i64 xs) ∧ wx.cell? ⟨g, 2, none⟩ = some (.slice ae xe.length ce) ∧ wx.cell? ⟨g, 3, none⟩ = some (.slice am xm.length cm)) ∧
                                  (wx.cell? ⟨b, o, none⟩ = some (.bool xg) ∧ wx.cell? ⟨b, o + 1, none⟩ = some (.int .i64 xs) ∧ wx.cell? ⟨b, o + 2, none⟩ = some (.slice ae' xe.length ce') ∧ wx.cell? ⟨b, o + 3, none⟩ = some (.slice am' xm.length cm')) ∧
                                  (∀ i, wx.cell? ⟨tb, i, none⟩ = (#[.slice ap pat.length cp, .slice al l.length cl, .int .i64 d.win, .int .i64 d.limit, .slice (some ⟨b, o, none⟩) d.copies.length c8] : Array Value)[i]?)) 24 (by kernel_rfl)
                                ⟨⟨XC.out.cellSome K0.out, XC.out.cellSome K1.out, XC.out.cellSome K2.out, XC.out.cellSome K3.out⟩, ⟨XC.out.cellSome K4.out, XC.out.cellSome K5.out, XC.out.cellSome K6.out, XC.out.cellSome K7.out⟩, (IV.out.ext1 XC.out).tbk.cell⟩ (fun hHeld => ?_)
                              generalize w5.drew = wA at *
                              refine wpAnyK_takeL (i := 0) (v := ?_) rfl (by kernel_rfl) (by kernel_rfl) (by kernel_rfl) (by kernel_rfl) (fun _ _ _ h => h) (Or.inl ⟨by rfl, ?_⟩) hHeld ?_
                              rotate_left
                              · intro w hSw; (try dsimp only at hSw); go_simp; (try with_reducible rfl)
                              try simp only [Act.put, List.setIfInBounds_toArray, List.set_cons_zero, List.set_cons_succ]
                              refine wpAnyK_takeL (i := 1) (v := ?_) rfl (by kernel_rfl) (by kernel_rfl) (by kernel_rfl) (by kernel_rfl) (fun _ _ _ h => h) (Or.inl ⟨by rfl, ?_⟩) hHeld ?_
                              rotate_left
                              · intro w hSw; (try dsimp only at hSw); go_simp; (try with_reducible rfl)
                              try simp only [Act.put, List.setIfInBounds_toArray, List.set_cons_zero, List.set_cons_succ]
                              refine wpAnyK_takeL (i := 2) (v := ?_) rfl (by kernel_rfl) (by kernel_rfl) (by kernel_rfl) (by kernel_rfl) (fun _ _ _ h => h) (Or.inl ⟨by rfl, ?_⟩) hHeld ?_
                              rotate_left
                              · intro w hSw; (try dsimp only at hSw); go_simp; (try with_reducible rfl)
                              try simp only [Act.put, List.setIfInBounds_toArray, List.set_cons_zero, List.set_cons_succ]
                              refine wpAnyK_takeL (i := 3) (v := ?_) rfl (by kernel_rfl) (by kernel_rfl) (by kernel_rfl) (by kernel_rfl) (fun _ _ _ h => h) (Or.inl ⟨by rfl, ?_⟩) hHeld ?_
                              rotate_left
                              · intro w hSw; (try dsimp only at hSw); go_simp; (try with_reducible rfl)
                              try simp only [Act.put, List.setIfInBounds_toArray, List.set_cons_zero, List.set_cons_succ]
                              refine wpAnyK_takeL (i := 4) (v := ?_) rfl (by kernel_rfl) (by kernel_rfl) (by kernel_rfl) (by kernel_rfl) (fun _ _ _ h => h) (Or.inl ⟨by rfl, ?_⟩) hHeld ?_
                              rotate_left
                              · intro w hSw; (try dsimp only at hSw); go_simp; (try with_reducible rfl)
                              try simp only [Act.put, List.setIfInBounds_toArray, List.set_cons_zero, List.set_cons_succ]
                              refine wpAnyK_takeL (i := 5) (v := ?_) rfl (by kernel_rfl) (by kernel_rfl) (by kernel_rfl) (by kernel_rfl) (fun _ _ _ h => h) (Or.inl ⟨by rfl, ?_⟩) hHeld ?_
                              rotate_left
                              · intro w hSw; (try dsimp only at hSw); go_simp; (try with_reducible rfl)
                              try simp only [Act.put, List.setIfInBounds_toArray, List.set_cons_zero, List.set_cons_succ]
                              refine wpAnyK_takeL (i := 6) (v := ?_) rfl (by kernel_rfl) (by kernel_rfl) (by kernel_rfl) (by kernel_rfl) (fun _ _ _ h => h) (Or.inl ⟨by rfl, ?_⟩) hHeld ?_
                              rotate_left
                              · intro w hSw; (try dsimp only at hSw); go_simp; (try with_reducible rfl)
                              try simp only [Act.put, List.setIfInBounds_toArray, List.set_cons_zero, List.set_cons_succ]
                              refine wpAnyK_takeL (i := 7) (v := ?_) rfl (by kernel_rfl) (by kernel_rfl) (by kernel_rfl) (by kernel_rfl) (fun _ _ _ h => h) (Or.inl ⟨by rfl, ?_⟩) hHeld ?_
                              rotate_left
                              · intro w hSw; (try dsimp only at hSw); go_simp; (try with_reducible rfl)
                              try simp only [Act.put, List.setIfInBounds_toArray, List.set_cons_zero, List.set_cons_succ]
                              refine wpAnyK_takeL (i := 8) (v := ?_) rfl (by kernel_rfl) (by kernel_rfl) (by kernel_rfl) (by kernel_rfl) (fun _ _ _ h => h) (Or.inl ⟨by rfl, ?_⟩) hHeld ?_
                              rotate_left
                              · intro w hSw; (try dsimp only at hSw); go_simp; (try with_reducible rfl)
                              try simp only [Act.put, List.setIfInBounds_toArray, List.set_cons_zero, List.set_cons_succ]
                              refine wpAnyK_takeL (i := 9) (v := ?_) rfl (by kernel_rfl) (by kernel_rfl) (by kernel_rfl) (by kernel_rfl) (fun _ _ _ h => h) (Or.inl ⟨by rfl, ?_⟩) hHeld ?_
                              rotate_left
                              · intro w hSw; (try dsimp only at hSw); go_simp; (try with_reducible rfl)
                              try simp only [Act.put, List.setIfInBounds_toArray, List.set_cons_zero, List.set_cons_succ]
                              refine wpAnyK_takeL (i := 10) (v := ?_) rfl (by kernel_rfl) (by kernel_rfl) (by kernel_rfl) (by kernel_rfl) (fun _ _ _ h => h) (Or.inl ⟨by rfl, ?_⟩) hHeld ?_
                              rotate_left
                              · intro w hSw; (try dsimp only at hSw); go_simp; (try with_reducible rfl)
                              try simp only [Act.put, List.setIfInBounds_toArray, List.set_cons_zero, List.set_cons_succ]
                              refine wpAnyK_takeL (i := 11) (v := ?_) rfl (by kernel_rfl) (by kernel_rfl) (by kernel_rfl) (by kernel_rfl) (fun _ _ _ h => h) (Or.inl ⟨by rfl, ?_⟩) hHeld ?_
                              rotate_left
                              · intro w hSw; (try dsimp only at hSw); go_simp; (try with_reducible rfl)
                              try simp only [Act.put, List.setIfInBounds_toArray, List.set_cons_zero, List.set_cons_succ]
                              refine wpAnyK_takeL (i := 12) (v := ?_) rfl (by kernel_rfl) (by kernel_rfl) (by kernel_rfl) (by kernel_rfl) (fun _ _ _ h => h) (Or.inl ⟨by rfl, ?_⟩) hHeld ?_
                              rotate_left
                              · intro w hSw; (try dsimp only at hSw); go_simp; (try with_reducible rfl)
                              try simp only [Act.put, List.setIfInBounds_toArray, List.set_cons_zero, List.set_cons_succ]
                              refine wpAnyK_takeL (i := 13) (v := ?_) rfl (by kernel_rfl) (by kernel_rfl) (by kernel_rfl) (by kernel_rfl) (fun _ _ _ h => h) (Or.inl ⟨by rfl, ?_⟩) hHeld ?_
                              rotate_left
                              · intro w hSw; (try dsimp only at hSw); go_simp; (try with_reducible rfl)
                              try simp only [Act.put, List.setIfInBounds_toArray, List.set_cons_zero, List.set_cons_succ]
                              refine wpAnyK_takeL (i := 14) (v := ?_) rfl (by kernel_rfl) (by kernel_rfl) (by kernel_rfl) (by kernel_rfl) (fun _ _ _ h => h) (Or.inl ⟨by rfl, ?_⟩) hHeld ?_
                              rotate_left
                              · intro w hSw; (try dsimp only at hSw); go_simp; (try with_reducible rfl)
                              try simp only [Act.put, List.setIfInBounds_toArray, List.set_cons_zero, List.set_cons_succ]
                              refine wpAnyK_takeL (i := 15) (v := ?_) rfl (by kernel_rfl) (by kernel_rfl) (by kernel_rfl) (by kernel_rfl) (fun _ _ _ h => h) (Or.inl ⟨by rfl, ?_⟩) hHeld ?_
                              rotate_left
                              · intro w hSw; (try dsimp only at hSw); go_simp; (try with_reducible rfl)
                              try simp only [Act.put, List.setIfInBounds_toArray, List.set_cons_zero, List.set_cons_succ]
                              refine wpAnyK_takeL (i := 16) (v := ?_) rfl (by kernel_rfl) (by kernel_rfl) (by kernel_rfl) (by kernel_rfl) (fun _ _ _ h => h) (Or.inl ⟨by rfl, ?_⟩) hHeld ?_
                              rotate_left
                              · intro w hSw; (try dsimp only at hSw); go_simp; (try with_reducible rfl)
                              try simp only [Act.put, List.setIfInBounds_toArray, List.set_cons_zero, List.set_cons_succ]
                              refine wpAnyK_ready (rs := [17]) (by kernel_rfl) (by simp) ?_
                              refine AllReadyK.consL (i := 17) rfl (fun K hK => ?_) ?_
                              · refine step_call (vs := #[.agg #[.bool xg, .int .i64 xs, .slice ae xe.length ce, .slice am xm.length cm], .agg #[.bool xg, .int .i64 xs, .slice ae' xe.length ce', .slice am' xm.length cm']]) rfl rfl rfl Try.func27 (by kernel_rfl) (by kernel_rfl) (sameCopy_true xg xs xe xm _ _ _ _ wA (I1.out.ext XC.out) (I3.out.ext XC.out) (J1.out.ext XC.out) (J3.out.ext XC.out)) ?_
                                rintro e w7 ⟨rfl, hx7⟩
                                refine ⟨_, rfl, ?_⟩
                                replace XC := Lib.hid (XC.out.tr hx7)
                                clear hx7
                                refine hK.out _ _ (fun _ => ⟨⟨XC.out.cellSome K0.out, XC.out.cellSome K1.out, XC.out.cellSome K2.out, XC.out.cellSome K3.out⟩, ⟨XC.out.cellSome K4.out, XC.out.cellSome K5.out, XC.out.cellSome K6.out, XC.out.cellSome K7.out⟩, (IV.out.ext1 XC.out).tbk.cell⟩) (fun hHeld2 => ?_)
                                clear hK K
                                try clear hHeld
                                have hHeld := hHeld2 (by decide)
                                clear hHeld2
                                try simp only [Act.put, List.setIfInBounds_toArray, List.set_cons_zero, List.set_cons_succ]
                                refine wpAnyK_takeL (i := 18) (v := ?_) rfl (by kernel_rfl) (by kernel_rfl) (by kernel_rfl) (by kernel_rfl) (fun _ _ _ h => h) (Or.inl ⟨by rfl, ?_⟩) hHeld ?_
                                rotate_left
                                · intro w hSw; (try dsimp only at hSw); go_simp; (try with_reducible rfl)
                                try simp only [Act.put, List.setIfInBounds_toArray, List.set_cons_zero, List.set_cons_succ]
                                refine wpAnyK_takeL (i := 19) (v := ?_) rfl (by kernel_rfl) (by kernel_rfl) (by kernel_rfl) (by kernel_rfl) (fun _ _ _ h => h) (Or.inl ⟨by rfl, ?_⟩) hHeld ?_
                                rotate_left
                                · intro w hSw; (try dsimp only at hSw); go_simp; (try with_reducible rfl)
                                try simp only [Act.put, List.setIfInBounds_toArray, List.set_cons_zero, List.set_cons_succ]
                                refine wpAnyK_takeL (i := 20) (v := ?_) rfl (by kernel_rfl) (by kernel_rfl) (by kernel_rfl) (by kernel_rfl) (fun _ _ _ h => h) (Or.inl ⟨by rfl, ?_⟩) hHeld ?_
                                rotate_left
                                · intro w hSw; (try dsimp only at hSw); go_simp; (try with_reducible rfl)
                                try simp only [Act.put, List.setIfInBounds_toArray, List.set_cons_zero, List.set_cons_succ]
                                refine wpAnyK_ready (rs := [21]) (by kernel_rfl) (by simp) ?_
                                refine AllReadyK.consL (i := 21) rfl (fun K hK => ?_) ?_
                                · refine step_call (vs := #[]) rfl rfl rfl Try.func9 (by kernel_rfl) (by kernel_rfl) (awake_true _) ?_
                                  rintro e w8 ⟨rfl, hx8⟩
                                  refine ⟨_, rfl, ?_⟩
                                  replace XC := Lib.hid (XC.out.tr hx8)
                                  clear hx8
                                  refine hK.out _ _ (fun _ => ⟨⟨XC.out.cellSome K0.out, XC.out.cellSome K1.out, XC.out.cellSome K2.out, XC.out.cellSome K3.out⟩, ⟨XC.out.cellSome K4.out, XC.out.cellSome K5.out, XC.out.cellSome K6.out, XC.out.cellSome K7.out⟩, (IV.out.ext1 XC.out).tbk.cell⟩) (fun hHeld2 => ?_)
                                  clear hK K
                                  try clear hHeld
                                  have hHeld := hHeld2 (by decide)
                                  clear hHeld2
                                  try simp only [Act.put, List.setIfInBounds_toArray, List.set_cons_zero, List.set_cons_succ]
                                  refine wpAnyK_takeL (i := 22) (v := ?_) rfl (by kernel_rfl) (by kernel_rfl) (by kernel_rfl) (by kernel_rfl) (fun _ _ _ h => h) (Or.inl ⟨by rfl, ?_⟩) hHeld ?_
                                  rotate_left
                                  · intro w hSw; (try dsimp only at hSw); go_simp; (try with_reducible rfl)
                                  try simp only [Act.put, List.setIfInBounds_toArray, List.set_cons_zero, List.set_cons_succ]
                                  refine wpAnyK_ready (rs := [23]) (by kernel_rfl) (by simp) ?_
                                  refine AllReadyK.consL (i := 23) rfl (fun K hK => ?_) ?_
                                  · go_simp
                                    refine hK.out _ _ (fun _ => ⟨⟨XC.out.cellSome K0.out, XC.out.cellSome K1.out, XC.out.cellSome K2.out, XC.out.cellSome K3.out⟩, ⟨XC.out.cellSome K4.out, XC.out.cellSome K5.out, XC.out.cellSome K6.out, XC.out.cellSome K7.out⟩, (IV.out.ext1 XC.out).tbk.cell⟩) (fun hHeld2 => ?_)
                                    clear hK K
                                    try clear hHeld
                                    have hHeld := hHeld2 (by decide)
                                    clear hHeld2
                                    try simp only [Act.put, List.setIfInBounds_toArray, List.set_cons_zero, List.set_cons_succ]
                                    refine wpAnyK_done (by kernel_rfl) ?_ _
                                    go_wp2
                                    go_ret
                                    exact ⟨rfl, IV.out.ext.tr XC.out⟩
                                  · exact AllReadyK.nil
                                · exact AllReadyK.nil
                              · exact AllReadyK.nil
  · skip
    as_aux_lemma =>
      have HN : Hid (Calls Try.prog 20 #[.slice a1 pat.length c1, .slice a2 l.length c2, .int .i64 win, .int .i64 limit] w2 fun e w' => e = .returned (.tuple #[.pointer none, .int .i64 er]) ∧ Ext w2 w') := hn.mono fun e w' h => by
        rcases h with ⟨_, h2, h3⟩ | ⟨h1, _⟩
        · exact ⟨by rw [her]; exact h2, h3⟩
        · exact (h0 (her.trans h1)).elim
      have e4 : (er != 0) = true := by simpa using h0
      have e5 : (er != er) = false := by simp
      have HER := Lib.hid her
      clear her
      clear hn h0
      go_upto_region 10 with (first
        | (go_at_call 20
           refine HN.out.mono ?_
           rintro e w3 ⟨rfl, hx3⟩
           have x3 := X2.out.tr hx3
           have o13 := owns_ext O12.out hx3
           have X3 := Lib.hid x3
           have O13 := Lib.hid o13
           clear x3 o13
           clear hx3 HN)
        | (go_at_call 25
           refine (refNew_any pat l win limit _ _ w3 (HP.out.ext X3.out) HPB.out HW.out HLM.out (HL.out.ext X3.out) HLB.out (by omega) (by omega)).mono ?_
           rintro e w4 ⟨q1, q2, q3, q4, q5, q6, q7, q8, rfl, hq, hx4⟩
           rw [← HER.out]
           unfold refD nilS
           clear hq
           have o14 := owns_ext O13.out hx4
           have x4 := X3.out.tr hx4
           have O14 := Lib.hid o14
           have X4 := Lib.hid x4
           clear o14 x4
           clear hx4)
        | (with_reducible refine wpList_allocA (t := 71) rfl rfl Try.zeroValue71 ?_
           rintro tb w5 hb5 hx5 hl5
           have TB := Lib.hid hb5
           have X45 := Lib.hid hx5
           clear hb5 hx5)
        | (with_reducible refine wpList_storeK (ty := 71) (cells := #[.slice q1 q2 q3, .slice q4 q5 q6, .int .i64 q7, .int .i64 q8, .slice none 0 0]) rfl rfl TB.out ?_ ?_ ?_ ?_ ?_ ?_
           · rfl
           · rfl
           · kernel_rfl
           · rfl
           · simp [Value.oneCell']
           rintro w6 hb6 ho6
           have x46 : Ext w4 w6 := X45.out.then_only ho6 (fun k (e : k = tb) => by omega)
           have o16 := owns_ext O14.out x46
           have x6 := X4.out.tr x46
           have hp6 := HP.out.ext x6
           have O16 := Lib.hid o16
           have X6 := Lib.hid x6
           have HP6 := Lib.hid hp6
           clear o16 x6 hp6
           clear ho6 hb6 x46)
        | (go_at_call 13
           refine (sameInts_true pat _ _ w6 (Sl.of_owns O16.out) HP6.out).mono ?_
           rintro e w7 ⟨rfl, hx7⟩
           have x7 := X6.out.tr hx7
           have X7 := Lib.hid x7
           clear x7
           clear hx7)
        | (go_at_call 9; refine (awake_true _).mono ?_; rintro x w8 ⟨rfl, hx8⟩; have HX8 := Lib.hid (X7.out.tr hx8); clear hx8))
      go_ret
      exact ⟨rfl, HX8.out⟩
end Go.Proofs.Ytafnadaahnkcmaa
