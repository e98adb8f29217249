/- BooksFinds returns true. -/
import Derived.Test.YtekplfbfkfiabaaFnKit
import Derived.Test.YtekplfbfkfiabaaKept
import Derived.Test.YtekplfbfkfiabaaBkLawB
import Derived.Test.YtekplfbfkfiabaaBkAwake
import Derived.Deep.CutRange
import Derived.Deep.CutBlock
namespace Go.Proofs.Ytekplfbfkfiabaa
open Go.RowKit Go.Shelf
set_option linter.unusedVariables false
set_option linter.unusedSimpArgs false
attribute [local go_sem] Oper.semAt_some

theorem sig_fits {d : LedD} (ok : LedOk d) : ∀ x ∈ d.ents, x.e.fits := fun x hx => by
  have h1 := ok.idx x hx
  have h2 := ok.amt x hx
  have h3 := ok.day x hx
  have h4 := ok.n1
  refine ⟨?_, ?_, ?_, ?_⟩ <;> (unfold I64; omega)
theorem SigIn.take_ {w : World} {b o n c c' i : Nat} {l : List SigD} (h : SigIn w (.slice (some ⟨b, o, none⟩) n c) l) (hi : i ≤ l.length) : SigIn w (.slice (some ⟨b, o, none⟩) i c') (l.take i) := StIn.take_ h hi
theorem row_cap {W : World} {B : Nat} {e : TypeId} {z n c : Nat} {a : Option Addr} {xs : List Value} (h : W.ownsRow B e z (.slice a n c) n xs) : n ≤ c := by
  rcases h.2 with ⟨hv, h0⟩ | ⟨g, cap, cur, hv, _, _, h1, _⟩
  · cases hv; omega
  · cases hv; exact h1
set_option maxRecDepth 100000 in
set_option maxHeartbeats 2000000 in
theorem finds_true (key : Int) (l : List AccD) (ds : List DeedD) (at_ too way other : Int) (va vd : Value) (w : World) (ha : AccIn w va l) (hd : DeedIn w vd ds) (hk : U64 key) (hat : I64 at_) (hto : I64 too) (hway : I64 way) (hoth : U64 other) (hb : l.length * 16 ≤ 140737488355328) :
    Calls Try.prog 9 #[.int .u64 key, va, vd, .int .i64 at_, .int .i64 too, .int .i64 way, .int .u64 other] w fun e w' => e = .returned (.bool true) ∧ Ext w w' := by
  have hp : ∀ e w', e = Ending.returned (.bool true) ∧ Ext w w' → e = Ending.returned (.bool true) ∧ Ext w w' := fun _ _ h => h
  have hal := ha.len
  have hdl := hd.len
  obtain ⟨aa, ca, rfl, HA⟩ := ha.form
  obtain ⟨ad, cd, rfl, HD⟩ := hd.form
  clear ha hd
  have HB := Lib.hid hb
  have HP := Lib.hid hp
  clear hp
  obtain ⟨er, her⟩ : ∃ er, er = checkE l := ⟨_, rfl⟩
  have HCE := Lib.hid her.symm
  by_cases hc : er = 0
  · have hc2 : checkE l = 0 := her.symm.trans hc
    have hl40 : 1 ≤ l.length ∧ l.length ≤ 40 := (LedOk.new hk hc2).n1
    obtain ⟨hl1, hl2⟩ := hl40
    subst hc
    by_cases hn : ds.length ≤ 60
    · have i1 : (ds.length : Int) ≤ 60 := by omega
      have i3 : (l.length : Int) ≤ 40 := by omega
      have hkp := fun (w1 : World) (v1 v2 : Value) (h1 : AccIn w1 v1 l) (h2 : DeedIn w1 v2 ds) => kept_any key l ds v1 v2 w1 h1 h2 hk hc2 (by omega)
      have HC2 := Lib.hid hc2
      have HKP := Lib.hid hkp
      have HOTH := Lib.hid hoth
      have HK := Lib.hid hk
      clear hkp hoth hk
      clear her hc2
      go_enter Try.func9, Try.ntmps9
      go_upto_region 4 with (first
        | (go_at_call 25
           refine (accounts_big l _ _ HA.out HB.out).mono ?_
           rintro e w1 ⟨v1, rfl, hx1, ho1⟩
           have h1 : AccIn w1 v1 l := StIn.of_owns accC_len ho1 hal
           clear ho1
           obtain ⟨a1, c1, rfl, _⟩ := h1.form
           have X := Lib.hid hx1
           have I1 := Lib.hid h1
           clear hx1 h1
           )
        | (go_at_call 26
           refine (check_any l _ _ I1.out).mono ?_
           rintro e w2 ⟨rfl, hx2⟩
           rw [HCE.out]
           replace X := Lib.hid (X.out.ext hx2)
           replace I1 := Lib.hid (I1.out.ext hx2)
           clear hx2))
      go_upto_region 7 with (
        go_at_call 27
        refine (HKP.out _ _ _ I1.out (HD.out.ext X.out)).mono ?_
        rintro e w3 ⟨lb, d, m, dy, rfl, hls, hkp, hdy, hx3⟩
        obtain ⟨B, hBe⟩ : ∃ B, B = w2.heap.size := ⟨_, rfl⟩
        rw [← hBe] at hls
        replace X := Lib.hid (X.out.ext hx3)
        replace I1 := Lib.hid (I1.out.ext hx3)
        clear hx3 hBe
        have L := Lib.hid hls
        have KP := Lib.hid hkp
        clear hls hkp)
      clear HKP HCE HD HA
      have hel := KP.out.ok.len
      have hfit := sig_fits KP.out.ok
      have ham := KP.out.ok.amt
      unfold AmtOk at ham
      have hrep : auditR key l d.ents = ((d.ents.length : Int), 0) := by
        unfold auditR
        rw [if_neg (fun h => h HC2.out), if_neg (by omega)]
        have h := KP.out.rep
        unfold Rep at h
        rw [KP.out.key, KP.out.acc] at h
        exact h
      have hrep2 : ∀ i, i ≤ d.ents.length → auditR key l (d.ents.take i) = ((i : Int), 0) := fun i hi => by
        unfold auditR
        rw [if_neg (fun h => h HC2.out), if_neg (by rw [List.length_take]; omega)]
        have h := KP.out.rep.pre i hi
        rw [KP.out.key, KP.out.acc] at h
        exact h
      have hau := fun (U : Int) (hU : U64 U) (es : List SigD) (hf : ∀ x ∈ es, x.e.fits) (w1 : World) (v1 v2 : Value) (h1 : AccIn w1 v1 l) (h2 : SigIn w1 v2 es) => audit_any U l es v1 v2 w1 h1 h2 hU hf
      have hau0 := hau key HK.out d.ents hfit
      rw [hrep] at hau0
      have hau1 := fun i (hi : i ≤ d.ents.length) => hau key HK.out (d.ents.take i) (fun x hx => hfit x (List.mem_of_mem_take hx))
      have HAU1 : Hid (∀ i, i ≤ d.ents.length → ∀ w1 v1 v2, AccIn w1 v1 l → SigIn w1 v2 (d.ents.take i) → Calls Try.prog 34 #[.int .u64 key, v1, v2] w1 fun e w' => e = .returned (.tuple #[.int .i64 (i : Int), .int .i64 0]) ∧ Ext w1 w') := fun i hi w1 v1 v2 h1 h2 => by
        have h := hau1 i hi w1 v1 v2 h1 h2
        rw [hrep2 i hi] at h
        exact h
      have HAU := Lib.hid hau
      have HAU0 := Lib.hid hau0
      have HFIT := Lib.hid hfit
      clear hau hau0 hfit
      clear hrep hrep2 hau1
      obtain ⟨es, hes⟩ : ∃ es, es = d.ents := ⟨_, rfl⟩
      have hent := fun (W : World) (h : LSt W B lb d m) => Entries_any B lb d m W h KP.out.ok
      rw [← hes] at hel HAU0 HAU1 HFIT hent ham
      have HENT := Lib.hid hent
      have HAM := Lib.hid ham
      clear hent ham
      clear hes KP
      go_upto_region 9 with (first
        | (go_at_call 39
           refine (HENT.out _ L.out).mono ?_
           rintro e w4 ⟨v4, rfl, hx4, ho4⟩
           have h4 : SigIn w4 v4 es := StIn.of_owns sigC_len ho4 (by omega)
           replace X := Lib.hid (X.out.ext hx4)
           replace I1 := Lib.hid (I1.out.ext hx4)
           obtain ⟨a4, c4, rfl, _⟩ := h4.form
           have hcap : es.length ≤ c4 := row_cap ho4
           clear hx4 ho4 L
           have IE := Lib.hid h4
           clear h4)
        | (go_at_call 34
           refine (HAU0.out _ _ _ I1.out IE.out).mono ?_
           rintro e w5 ⟨rfl, hx5⟩
           replace X := Lib.hid (X.out.ext hx5)
           replace I1 := Lib.hid (I1.out.ext hx5)
           replace IE := Lib.hid (IE.out.ext hx5)
           clear hx5))
      clear HAU0 HENT
      by_cases hz : es.length = 0
      · have e0 : ((es.length : Int) == 0) = true := by simp [hz]
        clear hz
        go_wp2_with (
          (go_at_call 14
           refine (awake_any _).mono ?_
           rintro e w6 ⟨rfl, hx6⟩
           replace X := Lib.hid (X.out.ext hx6)
           clear hx6
           )
          )
        go_ret
        exact HP.out _ _ ⟨rfl, X.out⟩
      · have e0 : ((es.length : Int) == 0) = false := by simpa using hz
        have hn1 : 1 ≤ es.length := by omega
        clear hz
        have h64 : I64 (es.length : Int) := by unfold I64; omega
        have hq1 := fun W => pick_any at_ es.length W hat h64
        have hq2 := fun W => pick_any too es.length W hto h64
        have r1 := pick_pos at_ es.length (by omega)
        have r2 := pick_pos too es.length (by omega)
        obtain ⟨i, hi⟩ : ∃ i : Nat, pick at_ es.length = (i : Int) := ⟨(pick at_ es.length).toNat, by omega⟩
        obtain ⟨k, hki⟩ : ∃ k : Nat, pick too es.length = (k : Int) := ⟨(pick too es.length).toNat, by omega⟩
        rw [hi] at hq1 r1
        rw [hki] at hq2 r2
        have hil : i < es.length := by omega
        have hkl : k < es.length := by omega
        obtain ⟨b4, o4, rfl, _⟩ := IE.out.cells (by omega)
        have HQ1 := Lib.hid hq1
        have HQ2 := Lib.hid hq2
        clear hq1 hq2
        clear hi hki r1 r2 h64
        have m1 : (0:Int) ≤ (i:Int) := by omega
        have m2 : (i:Int) < (es.length:Int) := by omega
        have m2b : (i:Int) ≤ (es.length:Int) := by omega
        have m5 : i ≤ c4 := by omega
        have m5b : (i:Int) ≤ (c4:Int) := by omega
        have m3 : (0:Int) ≤ (k:Int) := by omega
        have m4 : (k:Int) < (es.length:Int) := by omega
        go_upto_region 14 with (first
          | (go_at_call 24; refine (HQ1.out _).mono ?_; rintro e w' ⟨rfl, rfl⟩; clear HQ1)
          | (go_at_call 24; refine (HQ2.out _).mono ?_; rintro e w' ⟨rfl, rfl⟩; clear HQ2))
        go_upto_region 17 with (
          go_at_call 34
          refine (HAU1.out i (by omega) _ _ _ I1.out (IE.out.take_ (by omega))).mono ?_
          rintro e w6 ⟨rfl, hx6⟩
          replace X := Lib.hid (X.out.ext hx6)
          replace I1 := Lib.hid (I1.out.ext hx6)
          replace IE := Lib.hid (IE.out.ext hx6)
          clear hx6)
        clear HAU1
        have I16 := I1
        have X6 := X
        go_upto_region 18 with (first
          | (with_reducible refine wpList_build0 tSigs rfl rfl ?_
             rintro v0 wv hxv hov
             have XV := Lib.hid hxv
             have V0 := Lib.hid hov
             clear hxv hov)
          | (have hv0 := V0.out
             at_builtin
             refine wpList_app tSigs rfl rfl rfl hv0 rfl (StIn.src sigC_len (by omega) (IE.out.ext XV.out)) (fl_one sigC_one es) (by omega) XV.out.size ?_
             rintro v1 w7 h1 h2 h3
             have hx1 := ext_grown XV.out hv0 h2
             rw [Nat.zero_add, List.nil_append] at h1
             clear V0 XV hv0 h2 h3
             obtain ⟨g7, c7, rfl⟩ := row_pos h1 hn1
             have hne : ∀ b, b4 = b → b ≠ g7 := fun b e => by
               have h4 := (h1.lt g7 rfl).1
               obtain ⟨b', o', e2, hc⟩ := IE.out.cells (by omega)
               cases e2
               have h5 := World.block_lt_of_cell? _ _ (hc 0 (by omega)).1
               have h6 : b4 < w6.heap.size := h5
               omega
             replace X := Lib.hid (X.out.ext hx1)
             replace I1 := Lib.hid (I1.out.ext hx1)
             replace IE := Lib.hid (IE.out.ext hx1)
             have OC := Lib.hid h1
             have NE4 := Lib.hid hne
             have XC6 := Lib.hid hx1
             clear h1 hne hx1))
        have hq5 := fun W => pick_any way 5 W hway (by unfold I64; decide)
        have r5 := pick_pos way 5 (by omega)
        obtain ⟨r, hr⟩ : ∃ r : Nat, pick way 5 = (r : Int) := ⟨(pick way 5).toNat, by omega⟩
        rw [hr] at hq5 r5
        have hr5 : r < 5 := by omega
        have HQ5 := Lib.hid hq5
        clear hq5
        clear hr r5
        go_upto_block 0 with (go_at_call 24; refine (HQ5.out _).mono ?_; rintro e w' ⟨rfl, rfl⟩)
        go_cut [26, 27] (fun v u W => ∃ (C : List SigD) (U : Int) (aC : Option Addr) (cC : Nat), v = .slice aC C.length cC ∧ u = .int .u64 U ∧ Hid (SigIn W (.slice aC C.length cC) C) ∧ Hid ((∀ x ∈ C, x.e.fits) ∧ U64 U ∧ C.length ≤ 5000) ∧ Hid (Ext w6 W))
        case first =>
          as_aux_lemma =>
            have hr : r = 0 ∨ r = 1 ∨ r = 2 ∨ r = 3 ∨ r = 4 := by omega
            have hg7 : w6.heap.size ≤ g7 := (OC.out.lt g7 rfl).1
            have hsi : SigIn w7 (.slice (some ⟨g7, 0, none⟩) es.length c7) es := StIn.of_owns sigC_len OC.out (by omega)
            obtain ⟨b', o', e', hcs⟩ := hsi.cells (by omega)
            cases e'
            have SIC := Lib.hid hcs
            have hci := hcs i hil
            rw [Nat.zero_add] at hci
            obtain ⟨d0, d1, d2, d3, d4⟩ := hci
            have hfi := HFIT.out es[i] (List.getElem_mem hil)
            have hai := HAM.out es[i] (List.getElem_mem hil)
            have hmem : ∀ y : SigD, y.e.fits → ∀ x ∈ es.set i y, x.e.fits := fun y hy x hx => by
              rcases List.mem_or_eq_of_mem_set hx with hx | rfl
              · exact HFIT.out x hx
              · exact hy
            obtain ⟨cur, hbk, hsz, hput, hput1⟩ := row_el sigC_len OC.out hil
            obtain ⟨x, hx⟩ : ∃ x, x = es[i] := ⟨_, rfl⟩
            rw [← hx] at d0 d1 d2 d3 d4 hfi hai hput1
            obtain ⟨⟨xf, xt, xa, xd⟩, xs⟩ := x
            dsimp only at d0 d1 d2 d3 d4 hfi hai
            obtain ⟨ai1, ai2⟩ := hai
            have hlc : es.length ≤ 5000 := by omega
            have BK := Lib.hid hbk
            have SZ := Lib.hid hsz
            have PUT := Lib.hid hput
            have PUT1 := Lib.hid hput1
            have MEM := Lib.hid hmem
            have FI := Lib.hid hfi
            have G7 := Lib.hid hg7
            have SI := Lib.hid hsi
            have LC := Lib.hid hlc
            clear hbk hsz hput hput1 hmem hfi hg7 hsi hlc
            clear hcs hx
            rcases hr with rfl | rfl | rfl | rfl | rfl
            · skip
              go_wp2_with (
                with_reducible refine wpList_setK (i := i * 5 + 2) (v := .int .i64 (xa + 1)) rfl rfl BK.out ?_ ?_ ?_ ?_ ?_ ?_ ?_
                · rfl
                · rfl
                · have := SZ.out; omega
                · kernel_rfl
                · rfl
                · rfl
                rintro w8 hb8 ho8
                have hrow := PUT1.out w8 ⟨⟨xf, xt, xa + 1, xd⟩, xs⟩ 2 _ (by omega) rfl hb8
                have hx8 := XC6.out.then_only ho8 (fun q e => by rw [e]; exact G7.out)
                clear BK ho8 hb8 d0 d1 d2 d3 d4
                have ROW := Lib.hid hrow
                have X8 := Lib.hid hx8
                clear hrow hx8)
              go_meet
              case rel => exact ⟨es.set i ⟨⟨xf, xt, xa + 1, xd⟩, xs⟩, key, some ⟨g7, 0, none⟩, c7, by rw [List.length_set], rfl, Lib.hid (StIn.of_owns sigC_len (by rw [List.length_set]; exact ROW.out) (by rw [List.length_set]; have := LC.out; omega)), Lib.hid ⟨MEM.out _ ⟨FI.out.1, FI.out.2.1, by unfold I64; dsimp only; omega, FI.out.2.2.2⟩, HK.out, by rw [List.length_set]; exact LC.out⟩, X8⟩
            · skip
              go_wp2_with (
                with_reducible refine wpList_setK (i := i * 5 + 4) (v := .int .u64 (IntKind.u64.wrap (xs + 1))) rfl rfl BK.out ?_ ?_ ?_ ?_ ?_ ?_ ?_
                · rfl
                · rfl
                · have := SZ.out; omega
                · kernel_rfl
                · rfl
                · rfl
                rintro w8 hb8 ho8
                have hrow := PUT1.out w8 ⟨⟨xf, xt, xa, xd⟩, IntKind.u64.wrap (xs + 1)⟩ 4 _ (by omega) rfl hb8
                have hx8 := XC6.out.then_only ho8 (fun q e => by rw [e]; exact G7.out)
                clear BK ho8 hb8 d0 d1 d2 d3 d4
                have ROW := Lib.hid hrow
                have X8 := Lib.hid hx8
                clear hrow hx8)
              go_meet
              case rel => exact ⟨es.set i ⟨⟨xf, xt, xa, xd⟩, IntKind.u64.wrap (xs + 1)⟩, key, some ⟨g7, 0, none⟩, c7, by rw [List.length_set], rfl, Lib.hid (StIn.of_owns sigC_len (by rw [List.length_set]; exact ROW.out) (by rw [List.length_set]; have := LC.out; omega)), Lib.hid ⟨MEM.out _ FI.out, HK.out, by rw [List.length_set]; exact LC.out⟩, X8⟩
            · skip
              have mi1 : (i:Int) + 1 ≤ (es.length:Int) := by omega
              have mi2 : i + 1 ≤ es.length := by omega
              have mi3 : i + 1 ≤ c4 := by omega
              have mi4 : i ≤ c7 := by have := row_cap OC.out; omega
              have mi5 : (i:Int) ≤ (c7:Int) := by omega
              have mi6 : (i:Int) + 1 ≤ (c4:Int) := by omega
              have mi7 : (es.length : Int) ≤ (c4:Int) := by omega
              have mi8 : IntKind.i64.wrap ((i:Int) + 1) = ((i + 1 : Nat) : Int) := by rw [i64_eq _ (by omega)]; omega
              have mi9 : (0:Int) ≤ (i:Int) + 1 := by omega
              obtain ⟨AD, hif⟩ : ∃ AD : Addr, (if c4 = i + 1 then some (⟨b4, o4, none⟩ : Addr) else some ⟨b4, o4 + (i + 1) * 5, none⟩) = some AD := by split <;> exact ⟨_, rfl⟩
              have HSRC : Hid (∀ W, SigIn W (.slice (some ⟨b4, o4, none⟩) es.length c4) es → Src 5 W (.slice (some AD) (es.length - (i + 1)) (c4 - (i + 1))) (es.length - (i + 1)) ((es.drop (i + 1)).flatMap sigC)) := fun W hW => by
                by_cases hce : c4 = i + 1
                · rw [if_pos hce] at hif
                  cases hif
                  have h0 : es.drop (i + 1) = [] := List.drop_eq_nil_of_le (by omega)
                  have h1 : es.length - (i + 1) = 0 := by omega
                  rw [h0, h1]
                  exact ⟨rfl, _, _, rfl, fun e => (nomatch e), fun ad _ j u hj => by simp at hj⟩
                · rw [if_neg hce] at hif
                  cases hif
                  have h := StIn.src sigC_len (by omega) (StIn.drop_ (c' := c4 - (i + 1)) hW mi2)
                  rw [List.length_drop] at h
                  exact h
              have hCl : (es.take i ++ es.drop (i + 1)).length = i + (es.length - (i + 1)) := by rw [List.length_append, List.length_take, List.length_drop, Nat.min_eq_left (by omega)]
              have hCm : ∀ x ∈ es.take i ++ es.drop (i + 1), x.e.fits := fun x hx => by
                rcases List.mem_append.1 hx with hx | hx
                · exact HFIT.out x (List.mem_of_mem_take hx)
                · exact HFIT.out x (List.mem_of_mem_drop hx)
              have HCL := Lib.hid hCl
              have HCM := Lib.hid hCm
              have hxd : Ext w7 w7.drew := (Below.refl _ w7).drew
              have oc2 := owns_ext OC.out hxd
              have ie2 := IE.out.ext hxd
              have XC := Lib.hid (XC6.out.tr hxd)
              have OC2 := Lib.hid oc2
              have IE2 := Lib.hid ie2
              clear oc2 ie2
              clear hCl hCm d0 d1 d2 d3 d4
              go_upto_region 25 with (fail)
              refine wp_region_K (fun _ => True) 9 (by kernel_rfl) trivial (fun hHeld => ?_)
              clear hxd
              generalize w7.drew = wy at *
              refine wpAnyK_takeL (i := 0) (v := ?_) rfl (by kernel_rfl) (by kernel_rfl) (by kernel_rfl) (by kernel_rfl) (fun _ _ _ h => h) (Or.inl ⟨by rfl, ?_⟩) hHeld ?_
              rotate_left
              · intro w hSw; (try dsimp only at hSw); go_simp; (try with_reducible rfl)
              try simp only [Act.put, List.setIfInBounds_toArray, List.set_cons_zero, List.set_cons_succ]
              refine wpAnyK_takeL (i := 1) (v := ?_) rfl (by kernel_rfl) (by kernel_rfl) (by kernel_rfl) (by kernel_rfl) (fun _ _ _ h => h) (Or.inl ⟨by rfl, ?_⟩) hHeld ?_
              rotate_left
              · intro w hSw; (try dsimp only at hSw); go_simp; (try with_reducible rfl)
              try simp only [Act.put, List.setIfInBounds_toArray, List.set_cons_zero, List.set_cons_succ]
              refine wpAnyK_takeL (i := 2) (v := ?_) rfl (by kernel_rfl) (by kernel_rfl) (by kernel_rfl) (by kernel_rfl) (fun _ _ _ h => h) (Or.inl ⟨by rfl, ?_⟩) hHeld ?_
              rotate_left
              · intro w hSw; (try dsimp only at hSw); go_simp; (try with_reducible rfl)
              try simp only [Act.put, List.setIfInBounds_toArray, List.set_cons_zero, List.set_cons_succ]
              refine wpAnyK_takeL (i := 3) (v := ?_) rfl (by kernel_rfl) (by kernel_rfl) (by kernel_rfl) (by kernel_rfl) (fun _ _ _ h => h) (Or.inl ⟨by rfl, ?_⟩) hHeld ?_
              rotate_left
              · intro w hSw; (try dsimp only at hSw); go_simp; (try with_reducible rfl)
              try simp only [Act.put, List.setIfInBounds_toArray, List.set_cons_zero, List.set_cons_succ]
              refine wpAnyK_takeL (i := 4) (v := ?_) rfl (by kernel_rfl) (by kernel_rfl) (by kernel_rfl) (by kernel_rfl) (fun _ _ _ h => h) (Or.inl ⟨by rfl, ?_⟩) hHeld ?_
              rotate_left
              · intro w hSw; (try dsimp only at hSw); go_simp; (try with_reducible rfl)
              try simp only [Act.put, List.setIfInBounds_toArray, List.set_cons_zero, List.set_cons_succ]
              refine wpAnyK_takeL (i := 5) (v := ?_) rfl (by kernel_rfl) (by kernel_rfl) (by kernel_rfl) (by kernel_rfl) (fun _ _ _ h => h) (Or.inl ⟨by rfl, ?_⟩) hHeld ?_
              rotate_left
              · intro w hSw; (try dsimp only at hSw); go_simp; (try with_reducible rfl)
              try simp only [Act.put, List.setIfInBounds_toArray, List.set_cons_zero, List.set_cons_succ]
              refine wpAnyK_takeL (i := 6) (v := ?_) rfl (by kernel_rfl) (by kernel_rfl) (by kernel_rfl) (by kernel_rfl) (fun _ _ _ h => h) (Or.inl ⟨by rfl, ?_⟩) hHeld ?_
              rotate_left
              · intro w hSw; (try dsimp only at hSw); go_simp; (try with_reducible rfl)
              try simp only [Act.put, List.setIfInBounds_toArray, List.set_cons_zero, List.set_cons_succ]
              refine wpAnyK_ready (rs := [7]) (by kernel_rfl) (by simp) ?_
              refine AllReadyK.consL (i := 7) rfl (fun K hK => ?_) ?_
              · refine step_appS tSigs rfl rfl rfl (row_take sigC_len OC2.out (i := i) (by omega)) rfl (HSRC.out _ IE2.out) (fl_one sigC_one _) (by omega) XC.out.size ?_
                intro v' w8 q1 q2 q3
                have hx8 := ext_grown XC.out (row_take sigC_len OC2.out (i := i) (by omega)) q2
                rw [← List.flatMap_append, ← HCL.out] at q1
                clear XC q2 q3
                have X8 := Lib.hid hx8
                clear hx8
                refine hK.out _ _ (fun _ => trivial) (fun hHeld2 => ?_)
                clear hK K
                try clear hHeld
                have hHeld := hHeld2 (by decide)
                clear hHeld2
                try simp only [Act.put, List.setIfInBounds_toArray, List.set_cons_zero, List.set_cons_succ]
                refine wpAnyK_takeL (i := 8) (v := ?_) rfl (by kernel_rfl) (by kernel_rfl) (by kernel_rfl) (by kernel_rfl) (fun _ _ _ h => h) (Or.inl ⟨by rfl, ?_⟩) hHeld ?_
                rotate_left
                · intro w hSw; (try dsimp only at hSw); go_simp; (try with_reducible rfl)
                try simp only [Act.put, List.setIfInBounds_toArray, List.set_cons_zero, List.set_cons_succ]
                clear hHeld
                refine wpAnyK_done (by kernel_rfl) ?_ _
                go_wp2
                obtain ⟨a8, c8, rfl⟩ := row_form q1
                go_meet
                case rel => exact ⟨es.take i ++ es.drop (i + 1), key, a8, c8, rfl, rfl, Lib.hid (StIn.of_owns sigC_len q1 (by rw [HCL.out]; omega)), Lib.hid ⟨HCM.out, HK.out, by rw [HCL.out]; have := LC.out; omega⟩, X8⟩
              · exact AllReadyK.nil
            · have hck := SIC.out k hkl
              rw [Nat.zero_add] at hck
              obtain ⟨k0, k1, k2, k3, k4⟩ := hck
              have hfk := HFIT.out es[k] (List.getElem_mem hkl)
              obtain ⟨x2, hx2⟩ : ∃ x, x = es[k] := ⟨_, rfl⟩
              rw [← hx2] at k0 k1 k2 k3 k4 hfk
              obtain ⟨⟨yf, yt, ya, yd⟩, ys⟩ := x2
              dsimp only at k0 k1 k2 k3 k4 hfk
              have hmem2 : ∀ x ∈ (es.set i ⟨⟨yf, yt, ya, yd⟩, ys⟩).set k ⟨⟨xf, xt, xa, xd⟩, xs⟩, x.e.fits := fun x hx => by
                rcases List.mem_or_eq_of_mem_set hx with hx | rfl
                · exact MEM.out _ hfk x hx
                · exact FI.out
              have HME2 := Lib.hid hmem2
              clear hx2 hmem2 hfk
              have hxd : Ext w7 w7.drew := (Below.refl _ w7).drew
              have bk2 := BK.out.ext hxd
              have XC := Lib.hid (XC6.out.tr hxd)
              have BK2 := Lib.hid bk2
              clear bk2
              go_upto_region 27 with (fail)
              have D0 := hxd.cellSome d0
              have D1 := hxd.cellSome d1
              have D2 := hxd.cellSome d2
              have D3 := hxd.cellSome d3
              have D4 := hxd.cellSome d4
              have K0 := hxd.cellSome k0
              have K1 := hxd.cellSome k1
              have K2 := hxd.cellSome k2
              have K3 := hxd.cellSome k3
              have K4 := hxd.cellSome k4
              refine wp_region_K (fun _ => True) 16 (by kernel_rfl) trivial (fun hHeld => ?_)
              clear hxd d0 d1 d2 d3 d4 k0 k1 k2 k3 k4
              generalize w7.drew = wy at *
              refine wpAnyK_takeL (i := 0) (v := ?_) rfl (by kernel_rfl) (by kernel_rfl) (by kernel_rfl) (by kernel_rfl) (fun _ _ _ h => h) (Or.inl ⟨by rfl, ?_⟩) hHeld ?_
              rotate_left
              · intro w hSw; (try dsimp only at hSw); go_simp; (try with_reducible rfl)
              try simp only [Act.put, List.setIfInBounds_toArray, List.set_cons_zero, List.set_cons_succ]
              refine wpAnyK_takeL (i := 1) (v := ?_) rfl (by kernel_rfl) (by kernel_rfl) (by kernel_rfl) (by kernel_rfl) (fun _ _ _ h => h) (Or.inl ⟨by rfl, ?_⟩) hHeld ?_
              rotate_left
              · intro w hSw; (try dsimp only at hSw); go_simp; (try with_reducible rfl)
              try simp only [Act.put, List.setIfInBounds_toArray, List.set_cons_zero, List.set_cons_succ]
              refine wpAnyK_takeL (i := 2) (v := ?_) rfl (by kernel_rfl) (by kernel_rfl) (by kernel_rfl) (by kernel_rfl) (fun _ _ _ h => h) (Or.inl ⟨by rfl, ?_⟩) hHeld ?_
              rotate_left
              · intro w hSw; (try dsimp only at hSw); go_simp; (try with_reducible rfl)
              try simp only [Act.put, List.setIfInBounds_toArray, List.set_cons_zero, List.set_cons_succ]
              refine wpAnyK_takeL (i := 3) (v := ?_) rfl (by kernel_rfl) (by kernel_rfl) (by kernel_rfl) (by kernel_rfl) (fun _ _ _ h => h) (Or.inl ⟨by rfl, ?_⟩) hHeld ?_
              rotate_left
              · intro w hSw; (try dsimp only at hSw); go_simp; (try with_reducible rfl)
              try simp only [Act.put, List.setIfInBounds_toArray, List.set_cons_zero, List.set_cons_succ]
              refine wpAnyK_takeL (i := 4) (v := ?_) rfl (by kernel_rfl) (by kernel_rfl) (by kernel_rfl) (by kernel_rfl) (fun _ _ _ h => h) (Or.inl ⟨by rfl, ?_⟩) hHeld ?_
              rotate_left
              · intro w hSw; (try dsimp only at hSw); go_simp; (try with_reducible rfl)
              try simp only [Act.put, List.setIfInBounds_toArray, List.set_cons_zero, List.set_cons_succ]
              refine wpAnyK_takeL (i := 5) (v := ?_) rfl (by kernel_rfl) (by kernel_rfl) (by kernel_rfl) (by kernel_rfl) (fun _ _ _ h => h) (Or.inl ⟨by rfl, ?_⟩) hHeld ?_
              rotate_left
              · intro w hSw; (try dsimp only at hSw); go_simp; (try with_reducible rfl)
              try simp only [Act.put, List.setIfInBounds_toArray, List.set_cons_zero, List.set_cons_succ]
              refine wpAnyK_takeL (i := 6) (v := ?_) rfl (by kernel_rfl) (by kernel_rfl) (by kernel_rfl) (by kernel_rfl) (fun _ _ _ h => h) (Or.inl ⟨by rfl, ?_⟩) hHeld ?_
              rotate_left
              · intro w hSw; (try dsimp only at hSw); go_simp; (try with_reducible rfl)
              try simp only [Act.put, List.setIfInBounds_toArray, List.set_cons_zero, List.set_cons_succ]
              refine wpAnyK_takeL (i := 8) (v := ?_) rfl (by kernel_rfl) (by kernel_rfl) (by kernel_rfl) (by kernel_rfl) (fun _ _ _ h => h) (Or.inl ⟨by rfl, ?_⟩) hHeld ?_
              rotate_left
              · intro w hSw; (try dsimp only at hSw); go_simp; (try with_reducible rfl)
              try simp only [Act.put, List.setIfInBounds_toArray, List.set_cons_zero, List.set_cons_succ]
              refine wpAnyK_takeL (i := 9) (v := ?_) rfl (by kernel_rfl) (by kernel_rfl) (by kernel_rfl) (by kernel_rfl) (fun _ _ _ h => h) (Or.inl ⟨by rfl, ?_⟩) hHeld ?_
              rotate_left
              · intro w hSw; (try dsimp only at hSw); go_simp; (try with_reducible rfl)
              try simp only [Act.put, List.setIfInBounds_toArray, List.set_cons_zero, List.set_cons_succ]
              refine wpAnyK_takeL (i := 10) (v := ?_) rfl (by kernel_rfl) (by kernel_rfl) (by kernel_rfl) (by kernel_rfl) (fun _ _ _ h => h) (Or.inl ⟨by rfl, ?_⟩) hHeld ?_
              rotate_left
              · intro w hSw; (try dsimp only at hSw); go_simp; (try with_reducible rfl)
              try simp only [Act.put, List.setIfInBounds_toArray, List.set_cons_zero, List.set_cons_succ]
              refine wpAnyK_ready (rs := [7, 11]) (by kernel_rfl) (by simp) ?_
              refine AllReadyK.consL (i := 7) rfl (fun K hK => ?_) ?_
              · go_simp
                refine hK.out _ _ (fun _ => trivial) (fun hHeld2 => ?_)
                clear hK K
                try clear hHeld
                have hHeld := hHeld2 (by decide)
                clear hHeld2
                try simp only [Act.put, List.setIfInBounds_toArray, List.set_cons_zero, List.set_cons_succ]
                refine wpAnyK_ready (rs := [11]) (by kernel_rfl) (by simp) ?_
                refine AllReadyK.consL (i := 11) rfl (fun K hK => ?_) ?_
                · go_simp
                  refine hK.out _ _ (fun _ => trivial) (fun hHeld2 => ?_)
                  clear hK K
                  try clear hHeld
                  have hHeld := hHeld2 (by decide)
                  clear hHeld2
                  try simp only [Act.put, List.setIfInBounds_toArray, List.set_cons_zero, List.set_cons_succ]
                  clear D0 D1 D2 D3 D4 K0 K1 K2 K3 K4
                  refine wpAnyK_takeL (i := 12) (v := ?_) rfl (by kernel_rfl) (by kernel_rfl) (by kernel_rfl) (by kernel_rfl) (fun _ _ _ h => h) (Or.inl ⟨by rfl, ?_⟩) hHeld ?_
                  rotate_left
                  · intro w hSw; (try dsimp only at hSw); go_simp; (try with_reducible rfl)
                  try simp only [Act.put, List.setIfInBounds_toArray, List.set_cons_zero, List.set_cons_succ]
                  refine wpAnyK_ready (rs := [13]) (by kernel_rfl) (by simp) ?_
                  refine AllReadyK.consL (i := 13) rfl (fun K hK => ?_) ?_
                  · refine step_setMid rfl rfl (b := g7) (i := i * 5) (vs := sigC ⟨⟨yf, yt, ya, yd⟩, ys⟩) BK2.out rfl rfl SZ.out (by kernel_rfl) (sigC_one _) ?_
                    intro wm hb ho
                    have hrow := PUT.out wm ⟨⟨yf, yt, ya, yd⟩, ys⟩ hb
                    have hx8 := XC.out.then_only ho (fun q e => by rw [e]; exact G7.out)
                    obtain ⟨cur2, hbk2, hsz2, hput2, _⟩ := row_el sigC_len (l := es.set i ⟨⟨yf, yt, ya, yd⟩, ys⟩) (c := c7) (W := wm) (g := g7) (B := w6.heap.size) (e := 76) (by rw [List.length_set]; exact hrow) (i := k) (by rw [List.length_set]; exact hkl)
                    clear XC hb ho hrow
                    have X8 := Lib.hid hx8
                    have BK3 := Lib.hid hbk2
                    have SZ3 := Lib.hid hsz2
                    have PUT3 := Lib.hid hput2
                    clear hx8 hbk2 hsz2 hput2
                    refine hK.out _ _ (fun _ => trivial) (fun hHeld2 => ?_)
                    clear hK K
                    try clear hHeld
                    have hHeld := hHeld2 (by decide)
                    clear hHeld2
                    try simp only [Act.put, List.setIfInBounds_toArray, List.set_cons_zero, List.set_cons_succ]
                    refine wpAnyK_ready (rs := [14]) (by kernel_rfl) (by simp) ?_
                    refine AllReadyK.consL (i := 14) rfl (fun K hK => ?_) ?_
                    · go_simp
                      refine hK.out _ _ (fun _ => trivial) (fun hHeld2 => ?_)
                      clear hK K
                      try clear hHeld
                      have hHeld := hHeld2 (by decide)
                      clear hHeld2
                      try simp only [Act.put, List.setIfInBounds_toArray, List.set_cons_zero, List.set_cons_succ]
                      refine wpAnyK_ready (rs := [15]) (by kernel_rfl) (by simp) ?_
                      refine AllReadyK.consL (i := 15) rfl (fun K hK => ?_) ?_
                      · refine step_setMid rfl rfl (b := g7) (i := k * 5) (vs := sigC ⟨⟨xf, xt, xa, xd⟩, xs⟩) BK3.out rfl rfl SZ3.out (by kernel_rfl) (sigC_one _) ?_
                        intro wn hb ho
                        have hrow := PUT3.out wn ⟨⟨xf, xt, xa, xd⟩, xs⟩ hb
                        have hx9 := X8.out.then_only ho (fun q e => by rw [e]; exact G7.out)
                        clear hb ho X8
                        rw [List.length_set] at hrow
                        have X9 := Lib.hid hx9
                        have ROW := Lib.hid hrow
                        clear hx9 hrow
                        refine hK.out _ _ (fun _ => trivial) (fun hHeld2 => ?_)
                        clear hK K
                        try clear hHeld
                        have hHeld := hHeld2 (by decide)
                        clear hHeld2
                        try simp only [Act.put, List.setIfInBounds_toArray, List.set_cons_zero, List.set_cons_succ]
                        refine wpAnyK_done (by kernel_rfl) ?_ _
                        go_wp2
                        go_meet
                        case rel => exact ⟨(es.set i ⟨⟨yf, yt, ya, yd⟩, ys⟩).set k ⟨⟨xf, xt, xa, xd⟩, xs⟩, key, some ⟨g7, 0, none⟩, c7, by rw [List.length_set, List.length_set], rfl, Lib.hid (StIn.of_owns sigC_len (by rw [List.length_set, List.length_set]; exact ROW.out) (by rw [List.length_set, List.length_set]; have := LC.out; omega)), Lib.hid ⟨HME2.out, HK.out, by rw [List.length_set, List.length_set]; exact LC.out⟩, X9⟩
                      · exact AllReadyK.nil
                    · exact AllReadyK.nil
                  · exact AllReadyK.nil
                · exact AllReadyK.nil
              refine AllReadyK.consL (i := 11) rfl (fun K hK => ?_) ?_
              · go_simp
                refine hK.out _ _ (fun _ => trivial) (fun hHeld2 => ?_)
                clear hK K
                try clear hHeld
                have hHeld := hHeld2 (by decide)
                clear hHeld2
                try simp only [Act.put, List.setIfInBounds_toArray, List.set_cons_zero, List.set_cons_succ]
                refine wpAnyK_ready (rs := [7]) (by kernel_rfl) (by simp) ?_
                refine AllReadyK.consL (i := 7) rfl (fun K hK => ?_) ?_
                · go_simp
                  refine hK.out _ _ (fun _ => trivial) (fun hHeld2 => ?_)
                  clear hK K
                  try clear hHeld
                  have hHeld := hHeld2 (by decide)
                  clear hHeld2
                  try simp only [Act.put, List.setIfInBounds_toArray, List.set_cons_zero, List.set_cons_succ]
                  clear D0 D1 D2 D3 D4 K0 K1 K2 K3 K4
                  refine wpAnyK_takeL (i := 12) (v := ?_) rfl (by kernel_rfl) (by kernel_rfl) (by kernel_rfl) (by kernel_rfl) (fun _ _ _ h => h) (Or.inl ⟨by rfl, ?_⟩) hHeld ?_
                  rotate_left
                  · intro w hSw; (try dsimp only at hSw); go_simp; (try with_reducible rfl)
                  try simp only [Act.put, List.setIfInBounds_toArray, List.set_cons_zero, List.set_cons_succ]
                  refine wpAnyK_ready (rs := [13]) (by kernel_rfl) (by simp) ?_
                  refine AllReadyK.consL (i := 13) rfl (fun K hK => ?_) ?_
                  · refine step_setMid rfl rfl (b := g7) (i := i * 5) (vs := sigC ⟨⟨yf, yt, ya, yd⟩, ys⟩) BK2.out rfl rfl SZ.out (by kernel_rfl) (sigC_one _) ?_
                    intro wm hb ho
                    have hrow := PUT.out wm ⟨⟨yf, yt, ya, yd⟩, ys⟩ hb
                    have hx8 := XC.out.then_only ho (fun q e => by rw [e]; exact G7.out)
                    obtain ⟨cur2, hbk2, hsz2, hput2, _⟩ := row_el sigC_len (l := es.set i ⟨⟨yf, yt, ya, yd⟩, ys⟩) (c := c7) (W := wm) (g := g7) (B := w6.heap.size) (e := 76) (by rw [List.length_set]; exact hrow) (i := k) (by rw [List.length_set]; exact hkl)
                    clear XC hb ho hrow
                    have X8 := Lib.hid hx8
                    have BK3 := Lib.hid hbk2
                    have SZ3 := Lib.hid hsz2
                    have PUT3 := Lib.hid hput2
                    clear hx8 hbk2 hsz2 hput2
                    refine hK.out _ _ (fun _ => trivial) (fun hHeld2 => ?_)
                    clear hK K
                    try clear hHeld
                    have hHeld := hHeld2 (by decide)
                    clear hHeld2
                    try simp only [Act.put, List.setIfInBounds_toArray, List.set_cons_zero, List.set_cons_succ]
                    refine wpAnyK_ready (rs := [14]) (by kernel_rfl) (by simp) ?_
                    refine AllReadyK.consL (i := 14) rfl (fun K hK => ?_) ?_
                    · go_simp
                      refine hK.out _ _ (fun _ => trivial) (fun hHeld2 => ?_)
                      clear hK K
                      try clear hHeld
                      have hHeld := hHeld2 (by decide)
                      clear hHeld2
                      try simp only [Act.put, List.setIfInBounds_toArray, List.set_cons_zero, List.set_cons_succ]
                      refine wpAnyK_ready (rs := [15]) (by kernel_rfl) (by simp) ?_
                      refine AllReadyK.consL (i := 15) rfl (fun K hK => ?_) ?_
                      · refine step_setMid rfl rfl (b := g7) (i := k * 5) (vs := sigC ⟨⟨xf, xt, xa, xd⟩, xs⟩) BK3.out rfl rfl SZ3.out (by kernel_rfl) (sigC_one _) ?_
                        intro wn hb ho
                        have hrow := PUT3.out wn ⟨⟨xf, xt, xa, xd⟩, xs⟩ hb
                        have hx9 := X8.out.then_only ho (fun q e => by rw [e]; exact G7.out)
                        clear hb ho X8
                        rw [List.length_set] at hrow
                        have X9 := Lib.hid hx9
                        have ROW := Lib.hid hrow
                        clear hx9 hrow
                        refine hK.out _ _ (fun _ => trivial) (fun hHeld2 => ?_)
                        clear hK K
                        try clear hHeld
                        have hHeld := hHeld2 (by decide)
                        clear hHeld2
                        try simp only [Act.put, List.setIfInBounds_toArray, List.set_cons_zero, List.set_cons_succ]
                        refine wpAnyK_done (by kernel_rfl) ?_ _
                        go_wp2
                        go_meet
                        case rel => exact ⟨(es.set i ⟨⟨yf, yt, ya, yd⟩, ys⟩).set k ⟨⟨xf, xt, xa, xd⟩, xs⟩, key, some ⟨g7, 0, none⟩, c7, by rw [List.length_set, List.length_set], rfl, Lib.hid (StIn.of_owns sigC_len (by rw [List.length_set, List.length_set]; exact ROW.out) (by rw [List.length_set, List.length_set]; have := LC.out; omega)), Lib.hid ⟨HME2.out, HK.out, by rw [List.length_set, List.length_set]; exact LC.out⟩, X9⟩
                      · exact AllReadyK.nil
                    · exact AllReadyK.nil
                  · exact AllReadyK.nil
                · exact AllReadyK.nil
              · exact AllReadyK.nil
            · go_wp2
              go_meet
              case rel => exact ⟨es, other, some ⟨g7, 0, none⟩, c7, rfl, rfl, SI, Lib.hid ⟨HFIT.out, HOTH.out, LC.out⟩, XC6⟩
        case rest =>
          obtain ⟨C, U, aC, cC, rfl, rfl, HSC, HCF, XW⟩ := hcut
          have hi6 := I16.out.ext XW.out
          have hxw := X6.out.tr XW.out
          obtain ⟨hcf, hU, hCl⟩ := HCF.out
          have hnw := new_any U l _ wc hi6
          have HNP : Hid (∀ e w1, NewPost wc U l e w1 → ∃ lb m, e = .returned (.tuple #[.pointer (some ⟨lb, 0, none⟩), .int .i64 0]) ∧ LSt w1 wc.heap.size lb (newD U l) m ∧ Ext wc w1) := fun e w1 hh => by
            rcases hh with ⟨h1, _⟩ | ⟨_, lb, m, h2, h3, _, _, _, h4⟩
            · exact absurd HC2.out h1
            · exact ⟨lb, m, h2, h3, h4⟩
          have hok0 := LedOk.new hU HC2.out
          have hT : auditR U l C = auditF (newD U l) C 0 := by
            unfold auditR
            rw [if_neg (fun h => h HC2.out), if_neg (by omega)]
          have hat2 := HAU.out U hU C hcf
          rw [hT] at hat2
          obtain ⟨T, hTe⟩ : ∃ T, T = auditF (newD U l) C 0 := ⟨_, rfl⟩
          rw [← hTe] at hat2
          have HAT : Hid (∀ W fv wn, Ext wc W → T = (fv, wn) → Calls Try.prog 34 #[.int .u64 U, .slice a1 l.length c1, .slice aC C.length cC] W fun e w' => e = .returned (.tuple #[.int .i64 fv, .int .i64 wn]) ∧ Ext W w') := fun W fv wn hW hT2 => by
            have h := hat2 W _ _ (hi6.ext hW) (HSC.out.ext hW)
            rw [hT2] at h
            exact h
          have HNW := Lib.hid hnw
          have HOK0 := Lib.hid hok0
          have HXW := Lib.hid hxw
          have HTE := Lib.hid hTe
          have HCF2 := Lib.hid hcf
          clear hnw hok0 hxw hTe hcf
          clear hi6 hat2 hT hU I1 IE X OC NE4 XC6 I16 X6 HFIT HAM HAU HQ5 HCF
          go_upto_region 35 with (
            go_at_call 40
            refine HNW.out.mono ?_
            rintro e w8 hnp
            obtain ⟨lb2, m2, rfl, hls, hx8⟩ := HNP.out e w8 hnp
            clear hnp
            have L2 := Lib.hid hls
            have X8 := Lib.hid hx8
            clear hls hx8)
          clear HNW HNP
          go_loopw [29, 30, 31] (fun f wv t wr => ∃ (q : Nat) (fv wn : Int), q ≤ C.length ∧ t = .int .i64 q ∧ f = .int .i64 fv ∧ wv = .int .i64 wn ∧ Hid ((wn = 0 ∧ fv = C.length ∧ ∃ d m, LSt wr wc.heap.size lb2 d m ∧ LedOk d ∧ d.ents.length = q ∧ T = auditF d (C.drop q) q) ∨ (wn = 7 ∧ T = (fv, 7))) ∧ Hid (Ext wc wr)) (fun _ _ t _ => C.length - (intOf t).toNat)
          case atStart => exact ⟨0, C.length, 0, Nat.zero_le _, rfl, rfl, rfl, Lib.hid (.inl ⟨rfl, rfl, _, m2, L2.out, HOK0.out, rfl, HTE.out⟩), X8.out⟩
          case round =>
            clear L2 X8
            obtain ⟨q, fv, wn, hq, rfl, rfl, rfl, HI, X8⟩ := hrel
            rcases HI.out with ⟨rfl, rfl, d, m, hls, hok, hdl, hTd⟩ | ⟨rfl, hT7⟩
            · by_cases hql : q < C.length
              · obtain ⟨bC, oC, rfl, hc⟩ := HSC.out.cells (by omega)
                obtain ⟨e0, e1, e2, e3, e4⟩ := hc q hql
                have hft := HCF2.out C[q] (List.getElem_mem hql)
                rw [auditF_drop d C q hql] at hTd
                obtain ⟨x, hx⟩ : ∃ x, x = C[q] := ⟨_, rfl⟩
                rw [← hx] at e0 e1 e2 e3 e4 hTd hft
                have hpo := post_any wc.heap.size lb2 d m x.e wr hls hok X8.out.size hft
                obtain ⟨⟨xf, xt, xa, xd⟩, xs⟩ := x
                dsimp only at e0 e1 e2 e3 e4 hTd hft hpo
                unfold entV at hpo
                dsimp only at hpo
                have j1 : (0:Int) ≤ (q:Int) := by omega
                have j2 : (q:Int) < (C.length:Int) := by omega
                clear hc hx hft HI
                by_cases hpe : postErr d ⟨xf, xt, xa, xd⟩ = 0
                · rw [if_neg (fun h => h hpe)] at hTd
                  have hok2 := hok.post hpe
                  have hd2 : (postD d ⟨xf, xt, xa, xd⟩).ents.length = q + 1 := by simp [postD, hdl]
                  have HGD : Hid (∀ e w', PostPost wr wc.heap.size lb2 d m ⟨xf, xt, xa, xd⟩ e w' → e = .returned (.int .i64 0) ∧ ∃ m4, LSt w' wc.heap.size lb2 (postD d ⟨xf, xt, xa, xd⟩) m4 ∧ Ext wc w') := fun e w' hh => by
                    obtain ⟨g1, v', g2, _, g3⟩ := hh.good hpe
                    exact ⟨g1, _, g2, X8.out.then_only g3 (fun k hk => by
                      rcases hk with hk | hk
                      · rw [hk]; exact hls.blt
                      · exact (hls.ents.lt k hk).1)⟩
                  obtain ⟨sg, hsg⟩ : ∃ s, s = signOf d ⟨xf, xt, xa, xd⟩ := ⟨_, rfl⟩
                  rw [← hsg] at hTd
                  have hsx : ∀ h, (postD d ⟨xf, xt, xa, xd⟩).ents[q]'h = ⟨⟨xf, xt, xa, xd⟩, sg⟩ := fun h => by
                    simp [postD, List.getElem_append_right, hdl, hsg]
                  obtain ⟨d3, hd3⟩ : ∃ y, y = postD d ⟨xf, xt, xa, xd⟩ := ⟨_, rfl⟩
                  rw [← hd3] at hTd hok2 hd2 HGD hsx
                  have E0 := X8.out.cellSome e0
                  have E1 := X8.out.cellSome e1
                  have E2 := X8.out.cellSome e2
                  have E3 := X8.out.cellSome e3
                  have hent := fun (W : World) (m' : LMem) (h : LSt W wc.heap.size lb2 d3 m') => Entries_any wc.heap.size lb2 d3 m' W h hok2
                  have HPO := Lib.hid hpo
                  have HENT := Lib.hid hent
                  have HTD := Lib.hid hTd
                  have HOK2 := Lib.hid hok2
                  have HD2 := Lib.hid hd2
                  have HSX := Lib.hid hsx
                  have HEE0 := Lib.hid e0
                  have HEE1 := Lib.hid e1
                  have HEE2 := Lib.hid e2
                  have HEE3 := Lib.hid e3
                  have HEE4 := Lib.hid e4
                  clear hpo hent hTd hok2 hd2 hsx e0 e1 e2 e3 e4
                  clear hls hok hdl hpe hsg hd3
                  go_upto_region 38 with (
                    go_at_call 31
                    refine HPO.out.mono ?_
                    rintro e w9 hh
                    obtain ⟨rfl, m4, hl9, hx9⟩ := HGD.out e w9 hh
                    clear hh X8 E0 E1 E2 E3
                    have L9 := Lib.hid hl9
                    have X8 := Lib.hid hx9
                    clear hl9 hx9)
                  clear HGD HPO
                  have i1 : ((q + 1 : Nat) : Int) = (q : Int) + 1 := by omega
                  go_upto_region 43 with (
                    go_at_call 39
                    refine (HENT.out _ _ L9.out).mono ?_
                    rintro e w10 ⟨v10, rfl, hx10, ho10⟩
                    have hs10 : SigIn w10 v10 d3.ents := StIn.of_owns sigC_len ho10 (by have := HOK2.out.len; omega)
                    replace L9 := Lib.hid (L9.out.ext hx10)
                    replace X8 := Lib.hid (X8.out.ext hx10)
                    obtain ⟨a10, c10, rfl, _⟩ := hs10.form
                    rw [HD2.out] at hs10 ⊢
                    have S10 := Lib.hid hs10
                    clear hs10
                    clear hx10 ho10)
                  obtain ⟨b10, o10, rfl, hc10⟩ := SigIn.cells S10.out (by rw [HD2.out]; omega)
                  have hs := hc10 q (by rw [HD2.out]; omega)
                  rw [HSX.out] at hs
                  obtain ⟨s0, s1, s2, s3, s4⟩ := hs
                  dsimp only at s0 s1 s2 s3 s4
                  have E0 := X8.out.cellSome HEE0.out
                  have E1 := X8.out.cellSome HEE1.out
                  have E2 := X8.out.cellSome HEE2.out
                  have E3 := X8.out.cellSome HEE3.out
                  have E4 := X8.out.cellSome HEE4.out
                  have j3 : (q:Int) < (q:Int) + 1 := by omega
                  have j4 : (q:Int) < ((q + 1 : Nat) : Int) := by omega
                  have htd := HTD.out
                  clear hc10
                  by_cases hsx2 : sg = xs
                  · rw [if_neg (fun h => h hsx2)] at htd
                    rw [← hsx2] at E4
                    have HTD2 := Lib.hid htd
                    clear htd HTD hsx2
                    go_quiet (fail)
                    have hxq : Ext w10 (w10.drewN nq) := Ext.of_drewN _ _
                    replace L9 := Lib.hid (L9.out.ext hxq)
                    replace X8 := Lib.hid (X8.out.ext hxq)
                    generalize w10.drewN nq = wq at *
                    clear hxq s0 s1 s2 s3 s4 E0 E1 E2 E3 E4
                    go_wp2
                    go_roundw
                    case rel => exact ⟨q + 1, (C.length : Int), 0, by omega, by go_num, rfl, rfl, Lib.hid (.inl ⟨rfl, rfl, _, _, L9.out, HOK2.out, HD2.out, HTD2.out⟩), X8⟩
                    case measure => simp [intOf]; omega
                  · rw [if_pos hsx2] at htd
                    have HTD2 := Lib.hid htd
                    have n1 : (sg == xs) = false := by simpa using hsx2
                    have n2 : (sg != xs) = true := by simp [hsx2]
                    clear htd HTD
                    go_quiet (fail)
                    have hxq : Ext w10 (w10.drewN nq) := Ext.of_drewN _ _
                    replace X8 := Lib.hid (X8.out.ext hxq)
                    generalize w10.drewN nq = wq at *
                    clear hxq s0 s1 s2 s3 s4 E0 E1 E2 E3 E4 L9
                    go_wp2
                    go_roundw
                    case rel => exact ⟨q + 1, (q : Int), 7, by omega, by go_num, rfl, rfl, Lib.hid (.inr ⟨rfl, HTD2.out⟩), X8⟩
                    case measure => simp [intOf]; omega
                · rw [if_pos hpe] at hTd
                  obtain ⟨er, her⟩ : ∃ er, er = postErr d ⟨xf, xt, xa, xd⟩ := ⟨_, rfl⟩
                  have HGD : Hid (∀ e w', PostPost wr wc.heap.size lb2 d m ⟨xf, xt, xa, xd⟩ e w' → e = .returned (.int .i64 er) ∧ Ext wr w') := fun e w' hh => by
                    rw [her]
                    exact hh.bad hpe
                  rw [← her] at hTd
                  have hne : (er != 0) = true := by rw [her]; simpa using hpe
                  have HA3 : Hid (∀ W, Ext wc W → Calls Try.prog 34 #[.int .u64 U, .slice a1 l.length c1, .slice (some ⟨bC, oC, none⟩) C.length cC] W fun e w' => e = .returned (.tuple #[.int .i64 (q : Int), .int .i64 er]) ∧ Ext W w') := fun W hW => HAT.out W _ _ hW hTd
                  have E0 := X8.out.cellSome e0
                  have E1 := X8.out.cellSome e1
                  have E2 := X8.out.cellSome e2
                  have E3 := X8.out.cellSome e3
                  have HPO := Lib.hid hpo
                  clear hpo
                  clear hls hok hdl hpe her hTd e0 e1 e2 e3 e4
                  go_upto_region 45 with (
                    go_at_call 31
                    refine HPO.out.mono ?_
                    rintro e w9 hh
                    obtain ⟨rfl, hx9⟩ := HGD.out e w9 hh
                    clear hh E0 E1 E2 E3
                    replace X8 := Lib.hid (X8.out.ext hx9)
                    clear hx9)
                  clear HGD HPO
                  go_wp2_with (first
                    | (go_at_call 34
                       refine (HA3.out _ X8.out).mono ?_
                       rintro e w9 ⟨rfl, hx9⟩
                       have X := Lib.hid ((HXW.out.tr X8.out).tr hx9)
                       clear hx9)
                    | (go_at_call 14
                       refine (awake_any _).mono ?_
                       rintro e w10 ⟨rfl, hx10⟩
                       replace X := Lib.hid (X.out.ext hx10)
                       clear hx10))
                  go_ret
                  exact HP.out _ _ ⟨rfl, X.out⟩
              · obtain rfl : q = C.length := by omega
                rw [auditF_end _ _ _ (Nat.le_refl _)] at hTd
                have HA3 : Hid (∀ W, Ext wc W → Calls Try.prog 34 #[.int .u64 U, .slice a1 l.length c1, .slice aC C.length cC] W fun e w' => e = .returned (.tuple #[.int .i64 (C.length : Int), .int .i64 0]) ∧ Ext W w') := fun W hW => HAT.out W _ _ hW hTd
                clear hTd hls hok hdl hql HI
                go_wp2_with (first
                  | (go_at_call 34
                     refine (HA3.out _ X8.out).mono ?_
                     rintro e w9 ⟨rfl, hx9⟩
                     have X := Lib.hid ((HXW.out.tr X8.out).tr hx9)
                     clear hx9)
                  | (go_at_call 14
                     refine (awake_any _).mono ?_
                     rintro e w10 ⟨rfl, hx10⟩
                     replace X := Lib.hid (X.out.ext hx10)
                     clear hx10))
                go_ret
                exact HP.out _ _ ⟨rfl, X.out⟩
            · have HA3 : Hid (∀ W, Ext wc W → Calls Try.prog 34 #[.int .u64 U, .slice a1 l.length c1, .slice aC C.length cC] W fun e w' => e = .returned (.tuple #[.int .i64 fv, .int .i64 7]) ∧ Ext W w') := fun W hW => HAT.out W _ _ hW hT7
              clear hT7 HI
              by_cases hql : q < C.length
              · have j2 : (q:Int) < (C.length:Int) := by omega
                clear hql
                go_wp2_with (first
                  | (go_at_call 34
                     refine (HA3.out _ X8.out).mono ?_
                     rintro e w9 ⟨rfl, hx9⟩
                     have X := Lib.hid ((HXW.out.tr X8.out).tr hx9)
                     clear hx9)
                  | (go_at_call 14
                     refine (awake_any _).mono ?_
                     rintro e w10 ⟨rfl, hx10⟩
                     replace X := Lib.hid (X.out.ext hx10)
                     clear hx10))
                go_ret
                exact HP.out _ _ ⟨rfl, X.out⟩
              · have j2 : ¬ ((q:Int) < (C.length:Int)) := by omega
                clear hql
                go_wp2_with (first
                  | (go_at_call 34
                     refine (HA3.out _ X8.out).mono ?_
                     rintro e w9 ⟨rfl, hx9⟩
                     have X := Lib.hid ((HXW.out.tr X8.out).tr hx9)
                     clear hx9)
                  | (go_at_call 14
                     refine (awake_any _).mono ?_
                     rintro e w10 ⟨rfl, hx10⟩
                     replace X := Lib.hid (X.out.ext hx10)
                     clear hx10))
                go_ret
                exact HP.out _ _ ⟨rfl, X.out⟩
    · have i2 : (60 : Int) < (ds.length : Int) := by omega
      clear hn her hc2
      go_enter Try.func9, Try.ntmps9
      go_wp2_with (first
        | (go_at_call 25
           refine (accounts_big l _ _ HA.out HB.out).mono ?_
           rintro e w1 ⟨v1, rfl, hx1, ho1⟩
           have h1 : AccIn w1 v1 l := StIn.of_owns accC_len ho1 hal
           clear ho1
           obtain ⟨a1, c1, rfl, _⟩ := h1.form
           have X := Lib.hid hx1
           have I1 := Lib.hid h1
           clear hx1 h1
           )
        | (go_at_call 26
           refine (check_any l _ _ I1.out).mono ?_
           rintro e w2 ⟨rfl, hx2⟩
           rw [HCE.out]
           replace X := Lib.hid (X.out.ext hx2)
           clear hx2)
        | (go_at_call 14
           refine (awake_any _).mono ?_
           rintro e w6 ⟨rfl, hx6⟩
           replace X := Lib.hid (X.out.ext hx6)
           clear hx6
           )
        )
      go_ret
      exact HP.out _ _ ⟨rfl, X.out⟩
  · have hne : (er != 0) = true := by simpa using hc
    clear hc her
    go_enter Try.func9, Try.ntmps9
    go_wp2_with (first
      | (go_at_call 25
         refine (accounts_big l _ _ HA.out HB.out).mono ?_
         rintro e w1 ⟨v1, rfl, hx1, ho1⟩
         have h1 : AccIn w1 v1 l := StIn.of_owns accC_len ho1 hal
         clear ho1
         obtain ⟨a1, c1, rfl, _⟩ := h1.form
         have X := Lib.hid hx1
         have I1 := Lib.hid h1
         clear hx1 h1
         )
      | (go_at_call 26
         refine (check_any l _ _ I1.out).mono ?_
         rintro e w2 ⟨rfl, hx2⟩
         rw [HCE.out]
         replace X := Lib.hid (X.out.ext hx2)
         clear hx2)
      | (go_at_call 14
         refine (awake_any _).mono ?_
         rintro e w6 ⟨rfl, hx6⟩
         replace X := Lib.hid (X.out.ext hx6)
         clear hx6
         )
      )
    go_ret
    exact HP.out _ _ ⟨rfl, X.out⟩
end Go.Proofs.Ytekplfbfkfiabaa
