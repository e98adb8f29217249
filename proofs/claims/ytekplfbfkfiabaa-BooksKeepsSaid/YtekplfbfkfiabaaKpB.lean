/- BooksKeeps returns true. -/
import Derived.Test.YtekplfbfkfiabaaKpSt
import Derived.Test.YtekplfbfkfiabaaKept0
import Derived.Test.YtekplfbfkfiabaaAwK
import Derived.Test.YtekplfbfkfiabaaBkRefA
import Derived.Deep.CutRange
namespace Go.Proofs.Ytekplfbfkfiabaa
open Go.RowKit Go.Shelf
set_option linter.unusedVariables false
set_option linter.unusedSimpArgs false
attribute [local go_sem] Oper.semAt_some

theorem accC_one2 (x : AccD) : ∀ v ∈ accC x, v.oneCell' = true := accC_one x
/-- The copy in the middle: not yet made, or beside the reference's. -/
def MID (W : World) (l : List AccD) (lb : Nat) (m : LMem) (rb tb : Nat) (va mv : Value) : Prop :=
  (mv = .pointer none ∧ ∃ cs : Array Value, cs.size = 4 ∧ Blk W tb cs 81) ∨
  (∃ lb2 B2 d2 m2 ve2, mv = .pointer (some ⟨lb2, 0, none⟩) ∧ KA W l B2 lb2 d2 m2 tb va ve2 ∧ KF lb m rb lb2 d2 m2 tb ve2)
theorem MID.blk {W : World} {l : List AccD} {lb : Nat} {m : LMem} {rb tb : Nat} {va mv : Value} (h : MID W l lb m rb tb va mv) : ∃ cs : Array Value, cs.size = 4 ∧ Blk W tb cs 81 := by
  rcases h with ⟨_, h⟩ | ⟨lb2, B2, d2, m2, ve2, _, h, _⟩
  · exact h
  · exact ⟨_, rfl, h.ref⟩
theorem MID.ext {W W' : World} {l : List AccD} {lb : Nat} {m : LMem} {rb tb : Nat} {va mv : Value} (h : MID W l lb m rb tb va mv) (k : Ext W W') : MID W' l lb m rb tb va mv := by
  rcases h with ⟨h1, cs, h2, h3⟩ | ⟨lb2, B2, d2, m2, ve2, h1, h2, h3⟩
  · exact .inl ⟨h1, cs, h2, h3.ext k⟩
  · exact .inr ⟨lb2, B2, d2, m2, ve2, h1, h2.ext k, h3⟩
/-- Behind a step of the first pair. -/
theorem MID.step {W W' : World} {l : List AccD} {lb : Nat} {m m' : LMem} {rb tb : Nat} {va mv : Value} {S : Nat → Prop} (h : MID W l lb m rb tb va mv) (k : Only S W W') (hs : ∀ b, S b → b = lb ∨ b = rb ∨ m.ve.ownBlock = some b) (ht : ¬ S tb) (hf : FreshOr W m.ve m'.ve) : MID W' l lb m' rb tb va mv := by
  rcases h with ⟨h1, cs, h2, h3⟩ | ⟨lb2, B2, d2, m2, ve2, h1, h2, h3⟩
  · exact .inl ⟨h1, cs, h2, h3.only k ht⟩
  · refine .inr ⟨lb2, B2, d2, m2, ve2, h1, h2.only k (fun b hb => ?_), h3.step h2 hf⟩
    rcases hs b hb with rfl | rfl | hb
    · exact h3.1
    · exact h3.2.1
    · exact h3.2.2 b hb
set_option maxRecDepth 100000 in
set_option maxHeartbeats 2000000 in
theorem keeps_true (key : Int) (l : List AccD) (ds : List DeedD) (ac day : Int) (va vd : Value) (w : World) (ha : AccIn w va l) (hd : DeedIn w vd ds) (hk : U64 key) :
    Calls Try.prog 10 #[.int .u64 key, va, vd, .int .i64 ac, .int .i64 day] w fun e w' => e = .returned (.bool true) ∧ Ext w w' := by
  have hp : ∀ e w', e = Ending.returned (.bool true) ∧ Ext w w' → e = Ending.returned (.bool true) ∧ Ext w w' := fun _ _ h => h
  have hal := ha.len
  have hdl := hd.len
  obtain ⟨aa, ca, rfl, HA⟩ := ha.form
  obtain ⟨ad, cd, rfl, HD⟩ := hd.form
  clear ha hd
  have HP := Lib.hid hp
  clear hp
  by_cases q1 : l.length ≤ 60
  · have i1 : (l.length : Int) ≤ 60 := by omega
    by_cases q2 : ds.length ≤ 30
    · have i2 : (ds.length : Int) ≤ 30 := by omega
      have HB : Hid (l.length ≤ 1000000) := Lib.hid (by omega)
      obtain ⟨er, her⟩ : ∃ er, er = checkE l := ⟨_, rfl⟩
      have HCE := Lib.hid her.symm
      by_cases hc : er = 0
      · have hc2 : checkE l = 0 := her.symm.trans hc
        have hnw := fun W (k : AccIn W (.slice aa l.length ca) l) => rNew_any key l _ W k hc2
        unfold rLed newD at hnw
        dsimp only at hnw
        have hnp := fun (W : World) (v1 : Value) (h1 : AccIn W v1 l) => new_any key l v1 W h1
        have HNP : Hid (∀ W e w1, NewPost W key l e w1 → ∃ lb m, e = .returned (.tuple #[.pointer (some ⟨lb, 0, none⟩), .int .i64 0]) ∧ LSt w1 W.heap.size lb (newD key l) m ∧ (∀ b, m.va.ownBlock = some b → W.heap.size ≤ b) ∧ W.heap.size ≤ m.ab ∧ m.ve = .slice none 0 0 ∧ Ext W w1) := fun W e w1 hh => by
          rcases hh with ⟨h1, _⟩ | ⟨_, lb, m, h2, h3, h4, h5, h6, h7⟩
          · exact absurd hc2 h1
          · exact ⟨lb, m, h2, h3, h5, h4, h6, h7⟩
        subst hc
        have HOK0 := Lib.hid (LedOk.new hk hc2)
        have HNW := Lib.hid hnw
        have HN := Lib.hid hnp
        clear hnw hnp
        clear her hc2 hk q1 q2
        go_enter Try.func10, Try.ntmps10
        go_upto_region 6 with (first
          | (go_at_call 25
             refine (accounts_any l _ _ HA.out HB.out).mono ?_
             rintro e w1 ⟨v1, rfl, hx1, ho1⟩
             have h1 : AccIn w1 v1 l := StIn.of_owns accC_len ho1 hal
             obtain ⟨a1, c1, rfl⟩ := row_form ho1
             have X1 := Lib.hid hx1
             have X := Lib.hid hx1
             have I1 := Lib.hid h1
             have OX := Lib.hid ho1
             clear hx1 h1 ho1
             )
          | (go_at_call 40
             refine (HN.out _ _ I1.out).mono ?_
             rintro e w2 hh
             obtain ⟨lb, m, rfl, hls, hva, hab, hve, hx2⟩ := HNP.out _ e w2 hh
             clear hh
             have hsz : ∀ b, (Value.slice a1 l.length c1).ownBlock = some b → b < w1.heap.size := fun b hb => (OX.out.lt b hb).2
             replace OX := Lib.hid (owns_ext OX.out hx2)
             replace X := Lib.hid (X.out.ext hx2)
             replace I1 := Lib.hid (I1.out.ext hx2)
             have x1s : w.heap.size ≤ w1.heap.size := X1.out.size
             have L := Lib.hid hls
             have VA := Lib.hid hva
             have AB := Lib.hid hab
             have VE := Lib.hid hve
             have OXS := Lib.hid hsz
             have X1S := Lib.hid x1s
             clear hls hva hab hve hsz x1s
             clear hx2)
          | (go_at_call 41
             refine (HNW.out _ (HA.out.ext X.out)).mono ?_
             rintro e w3 ⟨rfl, hx3⟩
             replace OX := Lib.hid (owns_ext OX.out hx3)
             replace X := Lib.hid (X.out.ext hx3)
             replace I1 := Lib.hid (I1.out.ext hx3)
             replace L := Lib.hid (L.out.ext hx3)
             clear hx3)
          | (with_reducible refine wpList_allocA (t := 81) rfl rfl Try.zeroValue81 ?_
             rintro rb w4 hb4 hx4 hl4
             replace OX := Lib.hid (owns_ext OX.out hx4)
             have hrn : lb < rb ∧ m.ab < rb ∧ (∀ b, m.va.ownBlock = some b → b < rb) := ⟨Nat.lt_of_lt_of_le L.out.led.lt hl4, Nat.lt_of_lt_of_le L.out.acc.lt hl4, fun b hb => Nat.lt_of_lt_of_le (L.out.va_lt HOK0.out b hb) hl4⟩
             have lrb := Nat.le_trans X.out.size hl4
             replace X := Lib.hid (X.out.ext hx4)
             replace I1 := Lib.hid (I1.out.ext hx4)
             replace L := Lib.hid (L.out.ext hx4)
             have RB := Lib.hid hb4
             have LRB := Lib.hid lrb
             have RBN := Lib.hid hrn
             clear hb4 lrb hrn
             clear hx4 hl4)
          | (with_reducible refine wpList_storeK (ty := 81) (cells := #[.int .u64 key, .slice aa l.length ca, .slice none 0 0, .int .i64 (-1)]) rfl rfl RB.out ?_ ?_ ?_ ?_ ?_ ?_
             · rfl
             · rfl
             · kernel_rfl
             · rfl
             · simp [Value.oneCell']
             rintro w5 hb5 ho5
             have hx5 := X.out.then_only ho5 (fun q e => by rw [e]; exact LRB.out)
             have hn5 := RBN.out
             have hl5 := L.out.only ho5 (fun e => by omega) (fun e => by omega) (fun b hb e => by have := hn5.2.2 b hb; omega) (fun b hb e => by rw [VE.out] at hb; cases hb)
             have hlb := L.out.blt
             have hkt : ∀ b, (Value.slice a1 l.length c1).ownBlock = some b → ¬ KT lb (newD key l) m rb (.slice none 0 0) b := fun b hb hk => by
               have h0 := OXS.out b hb
               rcases hk with rfl | rfl | hk | hk | rfl | ⟨h1, _⟩
               · omega
               · have := AB.out; omega
               · have := VA.out b hk; omega
               · rw [VE.out] at hk; cases hk
               · omega
               · cases h1
             have hox := owns_only OX.out ho5 (fun b hb e => hkt b hb (.inr (.inr (.inr (.inr (.inl e))))))
             have hi5 : AccIn w5 (.slice a1 l.length c1) l := StIn.of_owns accC_len hox hal
             have hka : KA w5 l w1.heap.size lb (newD key l) m rb (.slice aa l.length ca) (.slice none 0 0) := ⟨hl5, HOK0.out, NN.new key l, rfl, hb5, StIn.nil w5, fun h => (by cases h), by omega, by omega, fun e => by have := hn5.2.2 _ e; omega, by rw [VE.out]; exact fun e => nomatch e⟩
             clear X L I1 OX RB hl5 hn5 hlb ho5 hb5 RBN VA AB VE OXS
             have hwb := X1S.out
             have X := Lib.hid hx5
             have KA1 := Lib.hid hka
             have OX := Lib.hid hox
             have I1 := Lib.hid hi5
             have NX := Lib.hid hkt
             have HBB := Lib.hid hwb
             clear hx5 hka hox hi5 hkt hwb
             have LRB2 := LRB
             clear HN HNW HNP))
        obtain ⟨B, hB⟩ : ∃ B, B = w1.heap.size := ⟨_, rfl⟩
        rw [← hB] at KA1 HBB
        clear hB X1 X1S
        go_upto_region 11 with (first
          | (go_at_call 26
             refine (check_any l _ _ I1.out).mono ?_
             rintro e w6 ⟨rfl, hx6⟩
             rw [HCE.out]
             replace OX := Lib.hid (owns_ext OX.out hx6)
             replace X := Lib.hid (X.out.ext hx6)
             replace KA1 := Lib.hid (KA1.out.ext hx6)
             clear hx6 I1)
          | (go_at_call 42
             refine (rCheck_any l _ _ (HA.out.ext X.out)).mono ?_
             rintro e w7 ⟨rfl, n7, hw7⟩
             rw [HCE.out]
             have hx7 : Ext w6 w7 := by rw [hw7]; exact Ext.of_drewN _ _
             replace OX := Lib.hid (owns_ext OX.out hx7)
             replace X := Lib.hid (X.out.ext hx7)
             replace KA1 := Lib.hid (KA1.out.ext hx7)
             clear hx7 hw7))
        go_loopw [16] (fun t wr => ∃ (k : Nat) (es : List AccD), k ≤ l.length ∧ t = .int .i64 k ∧ Hid (es.length = l.length ∧ wr.ownsRow w.heap.size 85 2 (.slice a1 l.length c1) l.length (es.flatMap accC) ∧ es.drop k = l.drop k) ∧ Hid (KA wr l B lb (newD key l) m rb (.slice aa l.length ca) (.slice none 0 0)) ∧ Hid (Ext w wr)) (fun t _ => l.length - (intOf t).toNat)
        case atStart => exact ⟨0, l, Nat.zero_le _, rfl, ⟨rfl, OX.out, rfl⟩, KA1.out, X.out⟩
        case round =>
          clear OX KA1 X
          obtain ⟨k, es, hk, rfl, HO, KA1, X⟩ := hrel
          by_cases hlt : k < l.length
          · skip
            as_aux_lemma =>
              obtain ⟨hel, ho, hdr⟩ := HO.out
              obtain ⟨b, o, rfl, hca⟩ := HA.out.cells (by omega)
              have e0 := X.out.cellSome (hca k hlt).1
              have e1 := X.out.cellSome (hca k hlt).2
              obtain ⟨g, c4, hv⟩ := row_pos ho (by omega)
              cases hv
              rw [← hel] at ho
              have hkl : k < es.length := by omega
              have hek : es[k] = l[k] := by
                have h1 : es[k]? = l[k]? := by
                  have h2 : (es.drop k)[0]? = (l.drop k)[0]? := by rw [hdr]
                  rw [List.getElem?_drop, List.getElem?_drop] at h2
                  exact h2
                rw [List.getElem?_eq_getElem hkl, List.getElem?_eq_getElem hlt] at h1
                exact Option.some.inj h1
              have hin : AccIn wr (.slice (some ⟨g, 0, none⟩) es.length c1) es := StIn.of_owns accC_len ho (by omega)
              obtain ⟨b', o', e', hcx⟩ := hin.cells (by omega)
              cases e'
              have x0 := (hcx k hkl).1
              have x1 := (hcx k hkl).2
              rw [Nat.zero_add] at x0 x1
              rw [hek] at x0 x1
              obtain ⟨cur, hbk, hsz, _, hput⟩ := row_el accC_len ho hkl
              have hlg : w.heap.size ≤ g := (ho.lt g rfl).1
              have hng := NX.out g rfl
              obtain ⟨x, hx⟩ : ∃ x, x = l[k]'hlt := ⟨_, rfl⟩
              rw [← hx] at e0 e1 x0 x1
              rw [hek, ← hx] at hput
              obtain ⟨yg, ys⟩ := x
              dsimp only at e0 e1 x0 x1
              have j1 : (0:Int) ≤ (k:Int) := by omega
              have j2 : (k:Int) < (l.length:Int) := by omega
              have hdr2 : (es.set k ⟨0, ys⟩).drop (k + 1) = l.drop (k + 1) := by
                rw [List.drop_set_of_lt (by omega)]
                have h1 : (es.drop k).drop 1 = (l.drop k).drop 1 := by rw [hdr]
                rw [List.drop_drop, List.drop_drop] at h1
                exact h1
              have HE2 := Lib.hid hel
              have BK := Lib.hid hbk
              have SZ := Lib.hid hsz
              have PUT := Lib.hid hput
              have LG := Lib.hid hlg
              have NG := Lib.hid hng
              have HDR := Lib.hid hdr2
              clear hbk hsz hput hlg hng hdr2
              clear hca hcx hin ho hel hek hx HO hdr
              go_upto_region 13 with (fail)
              go_quiet (fail)
              have hxq : Ext wr (wr.drewN nq) := Ext.of_drewN _ _
              replace X := Lib.hid (X.out.ext hxq)
              replace KA1 := Lib.hid (KA1.out.ext hxq)
              replace BK := Lib.hid (BK.out.ext hxq)
              generalize wr.drewN nq = wq at *
              clear hxq e0 e1 x0 x1
              go_wp2_with (
                with_reducible refine wpList_setK (i := k * 2) (v := .int .i64 0) rfl rfl BK.out ?_ ?_ ?_ ?_ ?_ ?_ ?_
                · rfl
                · rfl
                · have := SZ.out; omega
                · kernel_rfl
                · rfl
                · rfl
                rintro w10 hb10 ho10
                have hrow := PUT.out w10 ⟨0, ys⟩ 0 (.int .i64 0) (by omega) rfl hb10
                have hx10 := X.out.then_only ho10 (fun q e => by rw [e]; exact LG.out)
                have hk10 := KA1.out.only ho10 (fun q e => by rw [e]; exact NG.out)
                clear X KA1 BK ho10 hb10
                have ROW := Lib.hid hrow
                have X := Lib.hid hx10
                have KA1 := Lib.hid hk10
                clear hrow hx10 hk10)
              go_roundw
              case rel => exact ⟨k + 1, es.set k ⟨0, ys⟩, by omega, by go_num, Lib.hid ⟨by rw [List.length_set]; exact HE2.out, by rw [← HE2.out]; exact ROW.out, HDR.out⟩, KA1, X⟩
              case measure => simp [intOf]; omega
          · obtain rfl : k = l.length := by omega
            clear hlt HO NX
            obtain ⟨d0, hd0⟩ : ∃ y, y = newD key l := ⟨_, rfl⟩
            rw [← hd0] at KA1
            have hB2 : w.heap.size ≤ B := HBB.out
            go_upto_region 19 with (
              with_reducible refine wpList_allocA (t := 81) rfl rfl Try.zeroValue81 ?_
              rintro tb w8 hb8 hx8 hl8
              have htk : ¬ KT lb d0 m rb (.slice none 0 0) tb := fun hk => by have := KA1.out.lt tb hk; omega
              have ltb := Nat.le_trans X.out.size hl8
              replace X := Lib.hid (X.out.ext hx8)
              replace KA1 := Lib.hid (KA1.out.ext hx8)
              have TB := Lib.hid hb8
              have NTB := Lib.hid htk
              have LTB := Lib.hid ltb
              clear hb8 htk ltb
              clear hx8 hl8)
            have hmid : MID w8 l lb m rb tb (.slice aa l.length ca) (.pointer none) := .inl ⟨rfl, _, rfl, TB.out⟩
            have hlrb : w.heap.size ≤ rb := LRB2.out
            have MD := Lib.hid hmid
            have HB2 := Lib.hid hB2
            have LRB := Lib.hid hlrb
            clear hmid hB2 hlrb
            clear hd0 HOK0 TB
            obtain ⟨m0, hm0⟩ : ∃ y, y = m := ⟨m, rfl⟩
            rw [← hm0] at KA1 NTB MD
            clear hm0
            go_loopw [17, 19] (fun mv t wr => ∃ (i : Nat) (d : LedD) (m : LMem) (ve : Value), i ≤ ds.length ∧ t = .int .i64 i ∧ Hid (KA wr l B lb d m rb (.slice aa l.length ca) ve) ∧ Hid (¬ KT lb d m rb ve tb) ∧ Hid (MID wr l lb m rb tb (.slice aa l.length ca) mv) ∧ Hid (Ext w wr)) (fun _ t _ => ds.length - (intOf t).toNat)
            case atStart => exact ⟨0, d0, m0, _, Nat.zero_le _, rfl, KA1.out, NTB.out, MD.out, X.out⟩
            case round =>
              clear KA1 NTB MD X
              obtain ⟨i, d, m1, ve, hi, rfl, KA1, NTB, MD, X⟩ := hrel
              obtain ⟨av, cv, rfl, _⟩ := KA1.out.sig.form
              have hag := fun (B : Nat) (lb : Nat) (d : LedD) (m : LMem) (rb : Nat) (ve : Value) W (h : KA W l B lb d m rb (.slice aa l.length ca) ve) (hx : Ext w W) => agree_any B lb d m (.slice aa l.length ca) ve ac day W h.led h.ok (by rw [h.acc]; exact HA.out.ext hx) h.sig h.good
              unfold rLed at hag
              have HAG := Lib.hid hag
              clear hag
              by_cases hlt : i < ds.length
              · obtain ⟨b, o, rfl, hc⟩ := HD.out.cells (by omega)
                obtain ⟨e0, e1, e2, e3, e4, e5⟩ := hc i hlt
                have hx := X.out
                replace e0 := hx.cellSome e0
                replace e1 := hx.cellSome e1
                replace e2 := hx.cellSome e2
                replace e3 := hx.cellSome e3
                replace e4 := hx.cellSome e4
                replace e5 := hx.cellSome e5
                obtain ⟨hcn, hfit, hc64⟩ := HD.out.2 ds[i] (List.getElem_mem hlt)
                obtain ⟨x, hxe⟩ : ∃ x, x = ds[i] := ⟨_, rfl⟩
                rw [← hxe] at e0 e1 e2 e3 e4 e5 hcn hfit hc64
                clear hxe hc hx
                obtain ⟨cl, ⟨xf, xt, xa, xd⟩, xv, cn⟩ := x
                dsimp only at e0 e1 e2 e3 e4 e5 hcn hfit hc64
                have hcnl := hcn.len
                obtain ⟨ac2, cc2, rfl, HCN⟩ := hcn.form
                clear hcn
                have j1 : (0:Int) ≤ (i:Int) := by omega
                have j2 : (i:Int) < (ds.length:Int) := by omega
                have hquo : ((ds.length:Int)).tdiv 2 = ((ds.length / 2 : Nat) : Int) := by rw [Int.ofNat_tdiv]; rfl
                have HC64 := Lib.hid hc64
                have HFIT := Lib.hid hfit
                clear hc64 hfit
                go_upto_region 22 with (first
                  | (with_reducible refine wpList_allocA (t := 59) rfl rfl Try.zeroValue59 ?_
                     rintro pb w11 hb3 hx3 hl3
                     have lpb : wr.heap.size ≤ pb := hl3
                     have PB := Lib.hid hb3
                     have LPB := Lib.hid lpb
                     have XZ := Lib.hid hx3
                     clear hb3 lpb hx3
                     clear hl3)
                  | (with_reducible refine wpList_storeK (cells := #[.bool cl, .int .i64 xf, .int .i64 xt, .int .i64 xa, .int .i64 xd, .slice ac2 cn.length cc2]) rfl rfl PB.out ?_ ?_ ?_ ?_ ?_ ?_
                     · rfl
                     · rfl
                     · kernel_rfl
                     · rfl
                     · simp [Value.oneCell']
                     rintro w12 hb4 ho4
                     have hxz := XZ.out.then_only ho4 (fun q e => by rw [e]; exact LPB.out)
                     clear PB XZ ho4
                     have PB := Lib.hid hb4
                     have XZ := Lib.hid hxz
                     clear hb4 hxz))
                clear e0 e1 e2 e3 e4 e5
                obtain ⟨tcs0, _, htb0⟩ := MD.out.blk
                have htl0 := htb0.lt
                have lpb2 : tb < pb := Nat.lt_of_lt_of_le htl0 LPB.out
                have htl1 : tb < w12.heap.size := Nat.lt_of_lt_of_le htl0 XZ.out.size
                have LPB2 := Lib.hid lpb2
                have TBL := Lib.hid htl1
                clear htb0 htl0 lpb2 htl1
                have hnpb : ¬ KT lb d m1 rb (.slice av d.ents.length cv) pb := fun hk => by have := KA1.out.lt pb hk; have := LPB.out; omega
                have hka := KA1.out.ext XZ.out
                have hmd := MD.out.ext XZ.out
                have hxw := X.out.tr XZ.out
                have c5 := PB.out.cell 5
                clear KA1 MD X
                have KA1 := Lib.hid hka
                have MD := Lib.hid hmd
                have X := Lib.hid hxw
                have NPB := Lib.hid hnpb
                clear hka hmd hxw hnpb
                by_cases hcl : cn.length ≤ 60
                · have i5 : (cn.length : Int) ≤ 60 := by omega
                  clear hcl
                  by_cases hq : i = ds.length / 2
                  · have t1 : ((i : Int) == ((ds.length / 2 : Nat) : Int)) = true := by rw [hq]; simp
                    have HQ := Lib.hid hq
                    clear hq
                    have hcp := fun W (h : KA W l B lb d m1 rb (.slice aa l.length ca) (.slice av d.ents.length cv)) => copy_any B lb d m1 W h.led h.ok
                    have HCP := Lib.hid hcp
                    clear hcp
                    go_upto_region 27 with (
                      go_at_call 43
                      refine (HCP.out _ KA1.out).mono ?_
                      rintro e w14 ⟨lb2, v2, rfl, hl14, hlt14, hv14, hx14⟩
                      have hlb14 : w12.heap.size ≤ lb2 := hl14.blt
                      have hvb14 : ∀ b, v2.ownBlock = some b → w12.heap.size ≤ b := fun b hb => (hl14.ents.lt b hb).1
                      have KA12 := KA1
                      replace PB := Lib.hid (PB.out.ext hx14)
                      replace KA1 := Lib.hid (KA1.out.ext hx14)
                      replace MD := Lib.hid (MD.out.ext hx14)
                      replace X := Lib.hid (X.out.ext hx14)
                      have L2 := Lib.hid hl14
                      have LB2 := Lib.hid hlb14
                      have VB2 := Lib.hid hvb14
                      have X14 := Lib.hid hx14
                      clear hl14 hlb14 hvb14 hx14)
                    obtain ⟨tcs, htc, htb⟩ := MD.out.blk
                    have hxd : Ext w14 w14.drew := (Below.refl _ w14).drew
                    have r0 := KA1.out.c0
                    have r1 := KA1.out.c1
                    have r2 := KA1.out.c2
                    have r3 := KA1.out.c3
                    refine wp_region_K (fun W => W.cell? ⟨rb, 0, none⟩ = some (.int .u64 d.key) ∧ W.cell? ⟨rb, 1, none⟩ = some (.slice aa l.length ca) ∧ W.cell? ⟨rb, 2, none⟩ = some (.slice av d.ents.length cv) ∧ W.cell? ⟨rb, 3, none⟩ = some (.int .i64 d.closed)) 3 (by kernel_rfl) ⟨hxd.cellSome r0, hxd.cellSome r1, hxd.cellSome r2, hxd.cellSome r3⟩ (fun hHeld => ?_)
                    have htl : tb < w12.heap.size := TBL.out
                    have htb2 := htb.ext hxd
                    replace PB := Lib.hid (PB.out.ext hxd)
                    replace L2 := Lib.hid (L2.out.ext hxd)
                    replace KA1 := Lib.hid (KA1.out.ext hxd)
                    replace X := Lib.hid (X.out.ext hxd)
                    have TB2 := Lib.hid htb2
                    have TL := Lib.hid htl
                    have TC := Lib.hid htc
                    clear htb2 htl htc
                    clear hxd r0 r1 r2 r3 htb MD
                    generalize w14.drew = wy at *
                    refine wpAnyK_takeL (i := 0) (v := ?_) rfl (by kernel_rfl) (by kernel_rfl) (by kernel_rfl) (by kernel_rfl) (fun _ _ _ h => h) (Or.inl ⟨by rfl, ?_⟩) hHeld ?_
                    rotate_left
                    · intro w hSw; (try dsimp only at hSw); go_simp; (try with_reducible rfl)
                    try simp only [Act.put, List.setIfInBounds_toArray, List.set_cons_zero, List.set_cons_succ]
                    refine wpAnyK_takeL (i := 1) (v := ?_) rfl (by kernel_rfl) (by kernel_rfl) (by kernel_rfl) (by kernel_rfl) (fun _ _ _ h => h) (Or.inl ⟨by rfl, ?_⟩) hHeld ?_
                    rotate_left
                    · intro w hSw; (try dsimp only at hSw); go_simp; (try with_reducible rfl)
                    try simp only [Act.put, List.setIfInBounds_toArray, List.set_cons_zero, List.set_cons_succ]
                    refine wpAnyK_takeL (i := 2) (v := ?_) rfl (by kernel_rfl) (by kernel_rfl) (by kernel_rfl) (by kernel_rfl) (fun _ _ _ h => h) (Or.inl ⟨by rfl, ?_⟩) hHeld ?_
                    rotate_left
                    · intro w hSw; (try dsimp only at hSw); go_simp; (try with_reducible rfl)
                    try simp only [Act.put, List.setIfInBounds_toArray, List.set_cons_zero, List.set_cons_succ]
                    clear hHeld
                    refine wpAnyK_ready (rs := [3]) (by kernel_rfl) (by simp) ?_
                    refine AllReadyK.consL (i := 3) rfl (fun K hK => ?_) ?_
                    · refine step_storeK (cells := rCells d (.slice aa l.length ca) (.slice av d.ents.length cv)) rfl rfl TB2.out rfl rfl (by kernel_rfl) (by rw [TC.out]; rfl) (by simp [rCells, Value.oneCell']) ?_
                      intro wm hb ho
                      have hka := KA1.out.only ho (fun q e => by rw [e]; exact NTB.out)
                      have hl2 := L2.out.only ho (fun e => by have := LB2.out; have := TL.out; omega) (fun e => NTB.out (.inr (.inl e.symm))) (fun b hb e => NTB.out (.inr (.inr (.inl (by rw [← e]; exact hb))))) (fun b hb e => by have := VB2.out b hb; have := TL.out; omega)
                      have hcp := KA12.out.copied LB2.out TL.out NTB.out hl2 VB2.out hb hka.sig
                      have hmd : MID wm l lb m1 rb tb (.slice aa l.length ca) (.pointer (some ⟨lb2, 0, none⟩)) := .inr ⟨lb2, _, _, _, _, rfl, hcp.1, hcp.2⟩
                      have hx2 := X.out.then_only ho (fun q e => by rw [e]; exact LTB.out)
                      have hpb := PB.out.only ho (fun e => by have := TL.out; have := LPB2.out; omega)
                      clear KA1 X PB L2 ho hb hcp
                      have KA1 := Lib.hid hka
                      have X := Lib.hid hx2
                      have PB := Lib.hid hpb
                      have MD := Lib.hid hmd
                      clear hka hx2 hpb hmd
                      clear hl2
                      refine hK.out _ _ (fun h => absurd h (by decide)) (fun hHeld2 => ?_)
                      clear hK K hHeld2
                      try clear hHeld
                      try simp only [Act.put, List.setIfInBounds_toArray, List.set_cons_zero, List.set_cons_succ]
                      refine wpAnyK_done (by kernel_rfl) ?_ _
                      go_upto_region 28 with (fail)
                      clear c5
                      have r0 := KA1.out.c0
                      have r1 := KA1.out.c1
                      have r2 := KA1.out.c2
                      have r3 := KA1.out.c3
                      have x0 := PB.out.cell 0
                      have x1 := PB.out.cell 1
                      have x2 := PB.out.cell 2
                      have x3 := PB.out.cell 3
                      have x4 := PB.out.cell 4
                      have x5 := PB.out.cell 5
                      have hbs := KA1.out.bs
                      have hx0 := KA1.out.x0
                      have hklb : w.heap.size ≤ lb := Nat.le_trans HB2.out KA1.out.led.blt
                      have hkve : ∀ b, m1.ve.ownBlock = some b → w.heap.size ≤ b := fun b hb => Nat.le_trans HB2.out (KA1.out.led.ents.lt b hb).1
                      have KA0 := KA1
                      obtain ⟨_, _, htb9⟩ := MD.out.blk
                      have htl9 := htb9.lt
                      clear htb9
                      have BS := Lib.hid hbs
                      have X0 := Lib.hid hx0
                      have KLB := Lib.hid hklb
                      have KVE := Lib.hid hkve
                      have TBL2 := Lib.hid htl9
                      clear hbs hx0 hklb hkve htl9
                      cases cl with
                      | true =>
                        as_aux_lemma =>
                          obtain ⟨d2, hd2⟩ : ∃ y, y = closeD d xd cn := ⟨_, rfl⟩
                          obtain ⟨er, her⟩ : ∃ y, y = closeErr d xd cn := ⟨_, rfl⟩
                          obtain ⟨ou, hou⟩ : ∃ y, y = closeO d xd cn := ⟨_, rfl⟩
                          have hok2 : LedOk d2 := by rw [hd2]; exact KA1.out.ok.closeD
                          have hnn2 : NN d2 := by rw [hd2]; exact KA1.out.nn.closeD
                          have hac2 : d2.acc = d.acc := by rw [hd2]; exact closeD_acc KA1.out.ok _ _
                          have hrc := fun W (hx : Ext w W) (hs : SigIn W (.slice av d.ents.length cv) d.ents) => rClose_any d (.slice aa l.length ca) (.slice av d.ents.length cv) xd cn (.slice ac2 cn.length cc2) W (by rw [KA0.out.acc]; exact HA.out.ext hx) hs KA0.out.ok (HCN.out.ext hx) HFIT.out.2.2.2 HC64.out KA0.out.nn.last
                          have hru : ∀ W e w', SigIn W (.slice av d.ents.length cv) d.ents → RClosePost W d (.slice aa l.length ca) (.slice av d.ents.length cv) xd cn e w' → Ext W w' ∧ ∃ a c a2 c2, e = .returned (.tuple #[rLed d2 (.slice aa l.length ca) (.slice a d2.ents.length c), .slice a2 ou.length c2, .int .i64 er]) ∧
                              SigIn w' (.slice a d2.ents.length c) d2.ents ∧ Ints w' (.slice a2 ou.length c2) ou ∧ OldOr W.heap.size d (.slice av d.ents.length cv) d2 (.slice a d2.ents.length c) := by
                            rw [hd2, her, hou]
                            exact fun W e w' hs hh => RClosePost.uni hs hh
                          have hcl := fun W v (h : LSt W B lb d m1) (hB : B ≤ W.heap.size) (hc : Ints W v cn) hn => close_any B lb d m1 xd cn v W h KA0.out.ok hB hc HFIT.out.2.2.2 HC64.out hn
                          have hcu : ∀ W e w', ClosePost W B lb d m1 xd cn e w' → ∃ a c m', e = .returned (.tuple #[.slice a ou.length c, .int .i64 er]) ∧ Ints w' (.slice a ou.length c) ou ∧ LSt w' B lb d2 m' ∧ m'.ab = m1.ab ∧ m'.va = m1.va ∧ FreshOr W m1.ve m'.ve ∧ Only (fun k => k = lb ∨ m1.ve.ownBlock = some k) W w' := by
                            rw [hd2, her, hou]
                            exact fun W e w' hh => ClosePost.uni hh
                          unfold rLed at hrc hru
                          have hs1 : Hid (0 = 0) := Lib.hid rfl
                          have HRC := Lib.hid hrc
                          have HRU := Lib.hid hru
                          have HCL := Lib.hid hcl
                          have HCU := Lib.hid hcu
                          have OK2 := Lib.hid hok2
                          have NN2 := Lib.hid hnn2
                          have AC2 := Lib.hid hac2
                          clear hrc hru hcl hcu hok2 hnn2 hac2
                          clear hd2 her hou
                          go_upto_region 39 with (first
                            | (go_at_call 15
                               refine (copyInts_any cn (.slice ac2 cn.length cc2) _ (HCN.out.ext X.out) (by omega)).mono ?_
                               rintro e w15 ⟨v15, rfl, hx15, ho15⟩
                               obtain ⟨a15, c15, rfl⟩ := row_form ho15
                               have hi15 : Ints w15 (.slice a15 cn.length c15) cn := Sl.of_owns ho15
                               have hnv : ∀ b, (Value.slice a15 cn.length c15).ownBlock = some b → b ≠ lb ∧ m1.ve.ownBlock ≠ some b ∧ b < w15.heap.size := fun b hb => by
                                 have h1 := ho15.lt b hb
                                 have h2 := KA1.out.lt lb (.inl rfl)
                                 exact ⟨by omega, fun e => by have := KA1.out.lt b (.inr (.inr (.inr (.inl e)))); omega, h1.2⟩
                               clear x0 x1 x2 x3 x4 x5 r0 r1 r2 r3
                               replace X := Lib.hid (X.out.ext hx15)
                               replace KA1 := Lib.hid (KA1.out.ext hx15)
                               replace PB := Lib.hid (PB.out.ext hx15)
                               replace X0 := Lib.hid (X0.out.ext hx15)
                               have x4 := PB.out.cell 4
                               have OI := Lib.hid hi15
                               have NVC := Lib.hid hnv
                               clear hi15 hnv
                               clear hx15 ho15)
                            | (go_at_call 29
                               refine (HCL.out _ _ KA1.out.led KA1.out.bs OI.out NVC.out).mono ?_
                               rintro e w16 hh
                               obtain ⟨a16, c16, m2, rfl, hi16, hl16, hab, hva, hf16, ho16⟩ := HCU.out _ e w16 hh
                               clear hh x4
                               have hsz := X0.out.size
                               have hs16 := KA1.out.sig.only0 ho16 (fun h0 b hb e => by
                                 obtain ⟨a1, a2, a3⟩ := KA1.out.apart h0 b hb
                                 rcases e with e | e
                                 · exact a1 e
                                 · exact a2 e)
                               have hx16 := X.out.then_only ho16 (fun q e => by
                                 rcases e with rfl | e
                                 · exact KLB.out
                                 · exact KVE.out _ e)
                               have hon : Only (KS lb rb m1) _ w16 := (Only.of_ext X0.out).tr (ho16.weak (fun k _ h => h.elim .inl (fun h => .inr (.inr h))))
                               have hrb : Blk w16 rb #[.int .u64 d.key, .slice aa l.length ca, .slice av d.ents.length cv, .int .i64 d.closed] 81 := KA1.out.ref.only ho16 (fun e => by
                                 rcases e with e | e
                                 · exact KA0.out.rbl.1 e
                                 · exact KA0.out.rbl.2.2.2 e)
                               have hpb := PB.out.only ho16 (fun e => by
                                 rcases e with e | e
                                 · exact NPB.out (.inl e)
                                 · exact NPB.out (.inr (.inr (.inr (.inl e)))))
                               have hoi : Ints w16 (.slice a15 cn.length c15) cn := Sl.only OI.out ho16 (fun b hb e => by
                                 obtain ⟨a1, a2, a3⟩ := NVC.out b hb
                                 rcases e with e | e
                                 · exact a1 e
                                 · exact a2 e)
                               have hf0 := hf16.down hsz
                               have hsz2 := hon.size
                               have hm2 : ∀ b, m2.ve.ownBlock = some b → b < w16.heap.size := fun b hb => (hl16.ents.lt b hb).2
                               clear X KA1 PB OI NVC X0
                               have r0 := hrb.cell 0
                               have r1 := hrb.cell 1
                               have r2 := hrb.cell 2
                               have r3 := hrb.cell 3
                               have x4 := hpb.cell 4
                               have x5 := hpb.cell 5
                               have L2 := Lib.hid hl16
                               have SI := Lib.hid hs16
                               have X := Lib.hid hx16
                               have ON := Lib.hid hon
                               have RB := Lib.hid hrb
                               have PB := Lib.hid hpb
                               have OI := Lib.hid hoi
                               have AI := Lib.hid hi16
                               have F0 := Lib.hid hf0
                               have FAB := Lib.hid hab
                               have FVA := Lib.hid hva
                               have SZ2 := Lib.hid hsz2
                               have M2L := Lib.hid hm2
                               clear hl16 hs16 hx16 hon hrb hpb hoi hi16 hf0 hab hva hsz2 hm2
                               clear hf16 ho16 hsz)
                            | (go_at_call 44
                               refine (HRC.out _ X.out SI.out).mono ?_
                               rintro e w17 hh
                               obtain ⟨hx17, ae, ce, a17, c17, rfl, hs17, hi17, hold⟩ := HRU.out _ e w17 SI.out hh
                               clear hh r0 r1 r2 r3 x4 x5
                               have hap2 := hold.apart KA0.out SZ2.out hs17 (m2 := m2) F0.out (Nat.le_refl _) (.inr M2L.out)
                               have hnt := KA0.out.napart NTB.out (m2 := m2) TBL2.out FAB.out FVA.out F0.out (Nat.le_refl _) hold SZ2.out
                               have hon := ON.out.tr (Only.of_ext hx17)
                               clear SI ON
                               replace X := Lib.hid (X.out.ext hx17)
                               replace RB := Lib.hid (RB.out.ext hx17)
                               replace PB := Lib.hid (PB.out.ext hx17)
                               replace L2 := Lib.hid (L2.out.ext hx17)
                               replace OI := Lib.hid (OI.out.ext hx17)
                               replace AI := Lib.hid (AI.out.ext hx17)
                               have SI := Lib.hid hs17
                               have CI := Lib.hid hi17
                               have ON := Lib.hid hon
                               have AP2 := Lib.hid hap2
                               have NT2 := Lib.hid hnt
                               clear hs17 hi17 hon hap2 hnt
                               clear hx17 hold)
                            | (with_reducible refine wpList_allocA (t := 81) rfl rfl Try.zeroValue81 ?_
                               rintro nb w18 hb18 hx18 hl18
                               have hxw := Nat.le_trans X.out.size hl18
                               have hns : 0 < d2.ents.length → ∀ b, (Value.slice ae d2.ents.length ce).ownBlock = some b → b ≠ nb := fun h0 b hb => by have := SI.out.own_lt h0 b hb; omega
                               have hon := ON.out.tr (Only.of_ext hx18)
                               have hx0 := Nat.le_trans ON.out.size hl18
                               clear ON
                               have XB := Lib.hid hx18
                               have hlx : w17.heap.size ≤ nb := hl18
                               have AB := Lib.hid hb18
                               have NXW := Lib.hid hxw
                               have NS := Lib.hid hns
                               have ON := Lib.hid hon
                               have NXB := Lib.hid hlx
                               have NX0 := Lib.hid hx0
                               clear hb18 hxw hns hon hlx hx0
                               clear hx18 hl18)
                            | (with_reducible refine wpList_storeK (ty := 81) (cells := #[.int .u64 d2.key, .slice aa l.length ca, .slice ae d2.ents.length ce, .int .i64 d2.closed]) rfl rfl AB.out ?_ ?_ ?_ ?_ ?_ ?_
                               · rfl
                               · rfl
                               · kernel_rfl
                               · rfl
                               · simp [Value.oneCell']
                               rintro w19 hb19 ho19
                               have hx19 := XB.out.then_only ho19 (fun q e => by rw [e]; exact NXB.out)
                               have hon := Only.tr (S := fun k => k = nb ∨ KS lb rb m1 k) (ON.out.weak (fun k _ h => .inr h)) (ho19.weak (fun k _ h => .inl h))
                               have hon2 := hon.weak (T := KS lb rb m1) (fun k hk h => by
                                 rcases h with h | h
                                 · have := NX0.out; omega
                                 · exact h)
                               clear XB ON AB ho19 hon
                               replace X := Lib.hid (X.out.ext hx19)
                               replace RB := Lib.hid (RB.out.ext hx19)
                               replace PB := Lib.hid (PB.out.ext hx19)
                               replace L2 := Lib.hid (L2.out.ext hx19)
                               replace OI := Lib.hid (OI.out.ext hx19)
                               replace AI := Lib.hid (AI.out.ext hx19)
                               replace CI := Lib.hid (CI.out.ext hx19)
                               replace SI := Lib.hid (SI.out.ext hx19)
                               have x5 := PB.out.cell 5
                               have ON := Lib.hid hon2
                               have NB := Lib.hid hb19
                               clear hon2 hb19
                               clear hx19)
                            | (go_at_call 18
                               have hgo := NXB.out
                               refine (sameInts_any ou ou _ _ _ AI.out CI.out).mono ?_
                               rintro e w20 ⟨rfl, n20, hw20⟩
                               rw [decide_eq_true rfl]
                               have hx20 : Ext w19 w20 := by rw [hw20]; exact Ext.of_drewN _ _
                               have hon := ON.out.tr (Only.of_ext hx20)
                               clear ON x5 hw20 NXB hgo
                               replace X := Lib.hid (X.out.ext hx20)
                               replace RB := Lib.hid (RB.out.ext hx20)
                               replace PB := Lib.hid (PB.out.ext hx20)
                               replace L2 := Lib.hid (L2.out.ext hx20)
                               replace OI := Lib.hid (OI.out.ext hx20)
                               replace SI := Lib.hid (SI.out.ext hx20)
                               replace NB := Lib.hid (NB.out.ext hx20)
                               have x5 := PB.out.cell 5
                               have ON := Lib.hid hon
                               clear hon
                               clear hx20)
                            | (go_at_call 18
                               refine (sameInts_any cn cn _ _ _ OI.out (HCN.out.ext X.out)).mono ?_
                               rintro e w21 ⟨rfl, n21, hw21⟩
                               rw [decide_eq_true rfl]
                               have hx21 : Ext w20 w21 := by rw [hw21]; exact Ext.of_drewN _ _
                               have hon := ON.out.tr (Only.of_ext hx21)
                               clear ON x5 hw21
                               replace X := Lib.hid (X.out.ext hx21)
                               replace RB := Lib.hid (RB.out.ext hx21)
                               replace L2 := Lib.hid (L2.out.ext hx21)
                               replace SI := Lib.hid (SI.out.ext hx21)
                               replace NB := Lib.hid (NB.out.ext hx21)
                               have y0 := NB.out.cell 0
                               have y1 := NB.out.cell 1
                               have y2 := NB.out.cell 2
                               have y3 := NB.out.cell 3
                               have ON := Lib.hid hon
                               clear hon
                               clear hx21)
                            | (with_reducible refine wpList_storeK (ty := 81) (cells := #[.int .u64 d2.key, .slice aa l.length ca, .slice ae d2.ents.length ce, .int .i64 d2.closed]) rfl rfl RB.out ?_ ?_ ?_ ?_ ?_ ?_
                               · rfl
                               · rfl
                               · kernel_rfl
                               · rfl
                               · simp [Value.oneCell']
                               rintro w22 hb22 ho22
                               have hx22 := X.out.then_only ho22 (fun q e => by rw [e]; exact LRB.out)
                               obtain ⟨hka, hon⟩ := KA0.out.fin L2.out OK2.out NN2.out AC2.out FAB.out FVA.out F0.out SI.out AP2.out ON.out hb22 ho22
                               have hmd := MD.out.step (m' := m2) hon (fun b h => h) (KS.apart NTB.out) F0.out
                               have hnt := NT2.out
                               clear X L2 SI ON RB MD NTB y0 y1 y2 y3 ho22 hb22 hon
                               have X := Lib.hid hx22
                               have KA1 := Lib.hid hka
                               have MD := Lib.hid hmd
                               have NTB := Lib.hid hnt
                               clear hx22 hka hmd hnt))
                          have r0 := KA1.out.c0
                          have r1 := KA1.out.c1
                          have r2 := KA1.out.c2
                          have r3 := KA1.out.c3
                          go_wp2_with (
                            go_at_call 46
                            refine (HAG.out _ _ _ _ _ _ _ KA1.out X.out).mono ?_
                            rintro e w23 ⟨rfl, hx23⟩
                            replace X := Lib.hid (X.out.ext hx23)
                            replace KA1 := Lib.hid (KA1.out.ext hx23)
                            replace MD := Lib.hid (MD.out.ext hx23)
                            clear hx23 r0 r1 r2 r3)
                          go_roundw
                          case rel => exact ⟨i + 1, d2, m2, .slice ae d2.ents.length ce, by omega, by go_num, KA1, NTB, MD, X⟩
                          case measure => simp [intOf]; omega
                      | false =>
                        as_aux_lemma =>
                          obtain ⟨d2, hd2⟩ : ∃ y, y = postX d ⟨xf, xt, xa, xd⟩ := ⟨_, rfl⟩
                          obtain ⟨er, her⟩ : ∃ y, y = postErr d ⟨xf, xt, xa, xd⟩ := ⟨_, rfl⟩
                          have hok2 : LedOk d2 := by rw [hd2]; exact KA1.out.ok.postX
                          have hnn2 : NN d2 := by rw [hd2]; exact KA1.out.nn.postX
                          have hac2 : d2.acc = d.acc := by rw [hd2]; exact postX_acc _ _
                          have hrp := fun W (h : KA W l B lb d m1 rb (.slice aa l.length ca) (.slice av d.ents.length cv)) (hx : Ext w W) => rPost_any d (.slice aa l.length ca) (.slice av d.ents.length cv) ⟨xf, xt, xa, xd⟩ W (by rw [h.acc]; exact HA.out.ext hx) h.sig h.ok HFIT.out
                          have hru : ∀ W e w', SigIn W (.slice av d.ents.length cv) d.ents → RPostPost W d (.slice aa l.length ca) (.slice av d.ents.length cv) ⟨xf, xt, xa, xd⟩ e w' → Ext W w' ∧ ∃ a c, e = .returned (.tuple #[rLed d2 (.slice aa l.length ca) (.slice a d2.ents.length c), .int .i64 er]) ∧ SigIn w' (.slice a d2.ents.length c) d2.ents ∧ OldOr W.heap.size d (.slice av d.ents.length cv) d2 (.slice a d2.ents.length c) := by
                            rw [hd2, her]
                            exact fun W e w' hs hh => RPostPost.uni hs hh
                          have hpp := fun W (h : LSt W B lb d m1) (hB : B ≤ W.heap.size) => post_any B lb d m1 ⟨xf, xt, xa, xd⟩ W h KA0.out.ok hB HFIT.out
                          have hpu : ∀ W e w', LSt W B lb d m1 → PostPost W B lb d m1 ⟨xf, xt, xa, xd⟩ e w' → ∃ v', e = .returned (.int .i64 er) ∧ LSt w' B lb d2 { m1 with ve := v' } ∧ FreshOr W m1.ve v' ∧ Only (fun k => k = lb ∨ m1.ve.ownBlock = some k) W w' := by
                            rw [hd2, her]
                            exact fun W e w' hs hh => PostPost.uni hs hh
                          unfold rLed entV at hrp
                          unfold rLed at hru
                          unfold entV at hpp
                          have HRP := Lib.hid hrp
                          have HRU := Lib.hid hru
                          have HPP := Lib.hid hpp
                          have HPU := Lib.hid hpu
                          have OK2 := Lib.hid hok2
                          have NN2 := Lib.hid hnn2
                          have AC2 := Lib.hid hac2
                          clear hrp hru hpp hpu hok2 hnn2 hac2
                          clear hd2 her
                          go_upto_region 39 with (first
                            | (go_at_call 45
                               refine (HRP.out _ KA1.out X.out).mono ?_
                               rintro e w16 hh
                               obtain ⟨hx16, ae, ce, rfl, hs16, hold⟩ := HRU.out _ e w16 KA1.out.sig hh
                               have hsz := hx16.size
                               clear hh r0 r1 r2 r3 x0 x1 x2 x3 x4 x5
                               replace X := Lib.hid (X.out.ext hx16)
                               replace KA1 := Lib.hid (KA1.out.ext hx16)
                               replace PB := Lib.hid (PB.out.ext hx16)
                               replace X0 := Lib.hid (X0.out.ext hx16)
                               have hap1 := hold.apart KA0.out (Nat.le_refl _) hs16 (m2 := m1) (.inl rfl) hsz (.inl ⟨hsz, Nat.le_refl _⟩)
                               have SI := Lib.hid hs16
                               have OLD := Lib.hid hold
                               have AP1 := Lib.hid hap1
                               clear hs16 hold hap1
                               clear hx16 hsz)
                            | (with_reducible refine wpList_allocA (t := 81) rfl rfl Try.zeroValue81 ?_
                               rintro nb w17 hb17 hx17 hl17
                               have hx0 := Nat.le_trans X0.out.size hl17
                               have hxw := Nat.le_trans X.out.size hl17
                               have hnk : ∀ b, KT lb d m1 rb (.slice av d.ents.length cv) b → b < nb := fun b hb => Nat.lt_of_lt_of_le (KA1.out.lt b hb) hl17
                               have hns : 0 < d2.ents.length → ∀ b, (Value.slice ae d2.ents.length ce).ownBlock = some b → b ≠ nb := fun h0 b hb => by have := SI.out.own_lt h0 b hb; omega
                               have hnp : pb < nb := Nat.lt_of_lt_of_le PB.out.lt hl17
                               replace X := Lib.hid (X.out.ext hx17)
                               replace KA1 := Lib.hid (KA1.out.ext hx17)
                               replace PB := Lib.hid (PB.out.ext hx17)
                               replace X0 := Lib.hid (X0.out.ext hx17)
                               replace SI := Lib.hid (SI.out.ext hx17)
                               have AB := Lib.hid hb17
                               have NX0 := Lib.hid hx0
                               have NXW := Lib.hid hxw
                               have NK := Lib.hid hnk
                               have NS := Lib.hid hns
                               have NP := Lib.hid hnp
                               clear hb17 hx0 hxw hnk hns hnp
                               clear hx17 hl17)
                            | (with_reducible refine wpList_storeK (ty := 81) (cells := #[.int .u64 d2.key, .slice aa l.length ca, .slice ae d2.ents.length ce, .int .i64 d2.closed]) rfl rfl AB.out ?_ ?_ ?_ ?_ ?_ ?_
                               · rfl
                               · rfl
                               · kernel_rfl
                               · rfl
                               · simp [Value.oneCell']
                               rintro w18 hb18 ho18
                               have hx18 := X.out.then_only ho18 (fun q e => by rw [e]; exact NXW.out)
                               have hx19 := X0.out.then_only ho18 (fun q e => by rw [e]; exact NX0.out)
                               have hka := KA1.out.only ho18 (fun q e hk => by have := NK.out q hk; omega)
                               have hs18 := SI.out.only0 ho18 (fun h0 b hb e => NS.out h0 b hb e)
                               have hp18 := PB.out.only ho18 (fun e => by have := NP.out; omega)
                               clear X X0 KA1 SI PB AB ho18
                               have x1 := hp18.cell 1
                               have x2 := hp18.cell 2
                               have x3 := hp18.cell 3
                               have x4 := hp18.cell 4
                               have X := Lib.hid hx18
                               have X0 := Lib.hid hx19
                               have KA1 := Lib.hid hka
                               have SI := Lib.hid hs18
                               have PB := Lib.hid hp18
                               have NB := Lib.hid hb18
                               clear hx18 hx19 hka hs18 hp18 hb18)
                            | (go_at_call 31
                               refine (HPP.out _ KA1.out.led KA1.out.bs).mono ?_
                               rintro e w19 hh
                               obtain ⟨v19, rfl, hl19, hf19, ho19⟩ := HPU.out _ e w19 KA1.out.led hh
                               clear hh x1 x2 x3 x4
                               have hsz := X0.out.size
                               have hs19 := SI.out.only0 ho19 (fun h0 b hb e => by
                                 obtain ⟨a1, a2, a3⟩ := AP1.out h0 b hb
                                 rcases e with e | e
                                 · exact a1 e
                                 · exact a2 e)
                               have hx19 := X.out.then_only ho19 (fun q e => by
                                 rcases e with rfl | e
                                 · exact KLB.out
                                 · exact KVE.out _ e)
                               have hon : Only (KS lb rb m1) _ w19 := (Only.of_ext X0.out).tr (ho19.weak (fun k _ h => h.elim .inl (fun h => .inr (.inr h))))
                               have hrb := KA1.out.ref.only ho19 (fun e => by
                                 rcases e with e | e
                                 · exact KA0.out.rbl.1 e
                                 · exact KA0.out.rbl.2.2.2 e)
                               have hnb := NB.out.only ho19 (fun e => by
                                 rcases e with e | e
                                 · have := NK.out lb (.inl rfl); omega
                                 · have := NK.out nb (.inr (.inr (.inr (.inl e)))); omega)
                               have hap2 := OLD.out.apart KA0.out (Nat.le_refl _) SI.out (m2 := { m1 with ve := v19 }) hf19 hsz (.inl ⟨hsz, Nat.le_refl _⟩)
                               have hnt := KA0.out.napart NTB.out (m2 := { m1 with ve := v19 }) TBL2.out rfl rfl hf19 hsz OLD.out (Nat.le_refl _)
                               have hf0 := hf19.down hsz
                               clear X SI KA1 NB PB X0
                               have y0 := hnb.cell 0
                               have y1 := hnb.cell 1
                               have y2 := hnb.cell 2
                               have y3 := hnb.cell 3
                               have L2 := Lib.hid hl19
                               have SI := Lib.hid hs19
                               have X := Lib.hid hx19
                               have ON := Lib.hid hon
                               have RB := Lib.hid hrb
                               have AP2 := Lib.hid hap2
                               have NT2 := Lib.hid hnt
                               have F0 := Lib.hid hf0
                               clear hl19 hs19 hx19 hon hrb hap2 hnt hf0
                               clear hf19 ho19 hsz)
                            | (with_reducible refine wpList_storeK (ty := 81) (cells := #[.int .u64 d2.key, .slice aa l.length ca, .slice ae d2.ents.length ce, .int .i64 d2.closed]) rfl rfl RB.out ?_ ?_ ?_ ?_ ?_ ?_
                               · rfl
                               · rfl
                               · kernel_rfl
                               · rfl
                               · simp [Value.oneCell']
                               rintro w20 hb20 ho20
                               have hx20 := X.out.then_only ho20 (fun q e => by rw [e]; exact LRB.out)
                               obtain ⟨hka, hon⟩ := KA0.out.fin L2.out OK2.out NN2.out AC2.out rfl rfl F0.out SI.out AP2.out ON.out hb20 ho20
                               have hmd := MD.out.step (m' := { m1 with ve := v19 }) hon (fun b h => h) (KS.apart NTB.out) F0.out
                               have hnt := NT2.out
                               clear X L2 SI ON RB MD NTB y0 y1 y2 y3 ho20 hb20 hon
                               have X := Lib.hid hx20
                               have KA1 := Lib.hid hka
                               have MD := Lib.hid hmd
                               have NTB := Lib.hid hnt
                               clear hx20 hka hmd hnt))
                          have r0 := KA1.out.c0
                          have r1 := KA1.out.c1
                          have r2 := KA1.out.c2
                          have r3 := KA1.out.c3
                          go_wp2_with (
                            go_at_call 46
                            refine (HAG.out _ _ _ _ _ _ _ KA1.out X.out).mono ?_
                            rintro e w21 ⟨rfl, hx21⟩
                            replace X := Lib.hid (X.out.ext hx21)
                            replace KA1 := Lib.hid (KA1.out.ext hx21)
                            replace MD := Lib.hid (MD.out.ext hx21)
                            clear hx21 r0 r1 r2 r3)
                          go_roundw
                          case rel => exact ⟨i + 1, d2, { m1 with ve := v19 }, .slice ae d2.ents.length ce, by omega, by go_num, KA1, NTB, MD, X⟩
                          case measure => simp [intOf]; omega
                    · exact AllReadyK.nil
                  · have t1 : ((i : Int) == ((ds.length / 2 : Nat) : Int)) = false := by
                      rw [beq_eq_false_iff_ne]
                      omega
                    clear hq
                    go_upto_region 28 with (fail)
                    clear c5
                    have r0 := KA1.out.c0
                    have r1 := KA1.out.c1
                    have r2 := KA1.out.c2
                    have r3 := KA1.out.c3
                    have x0 := PB.out.cell 0
                    have x1 := PB.out.cell 1
                    have x2 := PB.out.cell 2
                    have x3 := PB.out.cell 3
                    have x4 := PB.out.cell 4
                    have x5 := PB.out.cell 5
                    have hbs := KA1.out.bs
                    have hx0 := KA1.out.x0
                    have hklb : w.heap.size ≤ lb := Nat.le_trans HB2.out KA1.out.led.blt
                    have hkve : ∀ b, m1.ve.ownBlock = some b → w.heap.size ≤ b := fun b hb => Nat.le_trans HB2.out (KA1.out.led.ents.lt b hb).1
                    have KA0 := KA1
                    obtain ⟨_, _, htb9⟩ := MD.out.blk
                    have htl9 := htb9.lt
                    clear htb9
                    have BS := Lib.hid hbs
                    have X0 := Lib.hid hx0
                    have KLB := Lib.hid hklb
                    have KVE := Lib.hid hkve
                    have TBL2 := Lib.hid htl9
                    clear hbs hx0 hklb hkve htl9
                    cases cl with
                    | true =>
                      as_aux_lemma =>
                        obtain ⟨d2, hd2⟩ : ∃ y, y = closeD d xd cn := ⟨_, rfl⟩
                        obtain ⟨er, her⟩ : ∃ y, y = closeErr d xd cn := ⟨_, rfl⟩
                        obtain ⟨ou, hou⟩ : ∃ y, y = closeO d xd cn := ⟨_, rfl⟩
                        have hok2 : LedOk d2 := by rw [hd2]; exact KA1.out.ok.closeD
                        have hnn2 : NN d2 := by rw [hd2]; exact KA1.out.nn.closeD
                        have hac2 : d2.acc = d.acc := by rw [hd2]; exact closeD_acc KA1.out.ok _ _
                        have hrc := fun W (hx : Ext w W) (hs : SigIn W (.slice av d.ents.length cv) d.ents) => rClose_any d (.slice aa l.length ca) (.slice av d.ents.length cv) xd cn (.slice ac2 cn.length cc2) W (by rw [KA0.out.acc]; exact HA.out.ext hx) hs KA0.out.ok (HCN.out.ext hx) HFIT.out.2.2.2 HC64.out KA0.out.nn.last
                        have hru : ∀ W e w', SigIn W (.slice av d.ents.length cv) d.ents → RClosePost W d (.slice aa l.length ca) (.slice av d.ents.length cv) xd cn e w' → Ext W w' ∧ ∃ a c a2 c2, e = .returned (.tuple #[rLed d2 (.slice aa l.length ca) (.slice a d2.ents.length c), .slice a2 ou.length c2, .int .i64 er]) ∧
                            SigIn w' (.slice a d2.ents.length c) d2.ents ∧ Ints w' (.slice a2 ou.length c2) ou ∧ OldOr W.heap.size d (.slice av d.ents.length cv) d2 (.slice a d2.ents.length c) := by
                          rw [hd2, her, hou]
                          exact fun W e w' hs hh => RClosePost.uni hs hh
                        have hcl := fun W v (h : LSt W B lb d m1) (hB : B ≤ W.heap.size) (hc : Ints W v cn) hn => close_any B lb d m1 xd cn v W h KA0.out.ok hB hc HFIT.out.2.2.2 HC64.out hn
                        have hcu : ∀ W e w', ClosePost W B lb d m1 xd cn e w' → ∃ a c m', e = .returned (.tuple #[.slice a ou.length c, .int .i64 er]) ∧ Ints w' (.slice a ou.length c) ou ∧ LSt w' B lb d2 m' ∧ m'.ab = m1.ab ∧ m'.va = m1.va ∧ FreshOr W m1.ve m'.ve ∧ Only (fun k => k = lb ∨ m1.ve.ownBlock = some k) W w' := by
                          rw [hd2, her, hou]
                          exact fun W e w' hh => ClosePost.uni hh
                        unfold rLed at hrc hru
                        have hs1 : Hid (0 = 0) := Lib.hid rfl
                        have HRC := Lib.hid hrc
                        have HRU := Lib.hid hru
                        have HCL := Lib.hid hcl
                        have HCU := Lib.hid hcu
                        have OK2 := Lib.hid hok2
                        have NN2 := Lib.hid hnn2
                        have AC2 := Lib.hid hac2
                        clear hrc hru hcl hcu hok2 hnn2 hac2
                        clear hd2 her hou
                        go_upto_region 39 with (first
                          | (go_at_call 15
                             refine (copyInts_any cn (.slice ac2 cn.length cc2) _ (HCN.out.ext X.out) (by omega)).mono ?_
                             rintro e w15 ⟨v15, rfl, hx15, ho15⟩
                             obtain ⟨a15, c15, rfl⟩ := row_form ho15
                             have hi15 : Ints w15 (.slice a15 cn.length c15) cn := Sl.of_owns ho15
                             have hnv : ∀ b, (Value.slice a15 cn.length c15).ownBlock = some b → b ≠ lb ∧ m1.ve.ownBlock ≠ some b ∧ b < w15.heap.size := fun b hb => by
                               have h1 := ho15.lt b hb
                               have h2 := KA1.out.lt lb (.inl rfl)
                               exact ⟨by omega, fun e => by have := KA1.out.lt b (.inr (.inr (.inr (.inl e)))); omega, h1.2⟩
                             clear x0 x1 x2 x3 x4 x5 r0 r1 r2 r3
                             replace X := Lib.hid (X.out.ext hx15)
                             replace KA1 := Lib.hid (KA1.out.ext hx15)
                             replace PB := Lib.hid (PB.out.ext hx15)
                             replace X0 := Lib.hid (X0.out.ext hx15)
                             have x4 := PB.out.cell 4
                             have OI := Lib.hid hi15
                             have NVC := Lib.hid hnv
                             clear hi15 hnv
                             clear hx15 ho15)
                          | (go_at_call 29
                             refine (HCL.out _ _ KA1.out.led KA1.out.bs OI.out NVC.out).mono ?_
                             rintro e w16 hh
                             obtain ⟨a16, c16, m2, rfl, hi16, hl16, hab, hva, hf16, ho16⟩ := HCU.out _ e w16 hh
                             clear hh x4
                             have hsz := X0.out.size
                             have hs16 := KA1.out.sig.only0 ho16 (fun h0 b hb e => by
                               obtain ⟨a1, a2, a3⟩ := KA1.out.apart h0 b hb
                               rcases e with e | e
                               · exact a1 e
                               · exact a2 e)
                             have hx16 := X.out.then_only ho16 (fun q e => by
                               rcases e with rfl | e
                               · exact KLB.out
                               · exact KVE.out _ e)
                             have hon : Only (KS lb rb m1) _ w16 := (Only.of_ext X0.out).tr (ho16.weak (fun k _ h => h.elim .inl (fun h => .inr (.inr h))))
                             have hrb : Blk w16 rb #[.int .u64 d.key, .slice aa l.length ca, .slice av d.ents.length cv, .int .i64 d.closed] 81 := KA1.out.ref.only ho16 (fun e => by
                               rcases e with e | e
                               · exact KA0.out.rbl.1 e
                               · exact KA0.out.rbl.2.2.2 e)
                             have hpb := PB.out.only ho16 (fun e => by
                               rcases e with e | e
                               · exact NPB.out (.inl e)
                               · exact NPB.out (.inr (.inr (.inr (.inl e)))))
                             have hoi : Ints w16 (.slice a15 cn.length c15) cn := Sl.only OI.out ho16 (fun b hb e => by
                               obtain ⟨a1, a2, a3⟩ := NVC.out b hb
                               rcases e with e | e
                               · exact a1 e
                               · exact a2 e)
                             have hf0 := hf16.down hsz
                             have hsz2 := hon.size
                             have hm2 : ∀ b, m2.ve.ownBlock = some b → b < w16.heap.size := fun b hb => (hl16.ents.lt b hb).2
                             clear X KA1 PB OI NVC X0
                             have r0 := hrb.cell 0
                             have r1 := hrb.cell 1
                             have r2 := hrb.cell 2
                             have r3 := hrb.cell 3
                             have x4 := hpb.cell 4
                             have x5 := hpb.cell 5
                             have L2 := Lib.hid hl16
                             have SI := Lib.hid hs16
                             have X := Lib.hid hx16
                             have ON := Lib.hid hon
                             have RB := Lib.hid hrb
                             have PB := Lib.hid hpb
                             have OI := Lib.hid hoi
                             have AI := Lib.hid hi16
                             have F0 := Lib.hid hf0
                             have FAB := Lib.hid hab
                             have FVA := Lib.hid hva
                             have SZ2 := Lib.hid hsz2
                             have M2L := Lib.hid hm2
                             clear hl16 hs16 hx16 hon hrb hpb hoi hi16 hf0 hab hva hsz2 hm2
                             clear hf16 ho16 hsz)
                          | (go_at_call 44
                             refine (HRC.out _ X.out SI.out).mono ?_
                             rintro e w17 hh
                             obtain ⟨hx17, ae, ce, a17, c17, rfl, hs17, hi17, hold⟩ := HRU.out _ e w17 SI.out hh
                             clear hh r0 r1 r2 r3 x4 x5
                             have hap2 := hold.apart KA0.out SZ2.out hs17 (m2 := m2) F0.out (Nat.le_refl _) (.inr M2L.out)
                             have hnt := KA0.out.napart NTB.out (m2 := m2) TBL2.out FAB.out FVA.out F0.out (Nat.le_refl _) hold SZ2.out
                             have hon := ON.out.tr (Only.of_ext hx17)
                             clear SI ON
                             replace X := Lib.hid (X.out.ext hx17)
                             replace RB := Lib.hid (RB.out.ext hx17)
                             replace PB := Lib.hid (PB.out.ext hx17)
                             replace L2 := Lib.hid (L2.out.ext hx17)
                             replace OI := Lib.hid (OI.out.ext hx17)
                             replace AI := Lib.hid (AI.out.ext hx17)
                             have SI := Lib.hid hs17
                             have CI := Lib.hid hi17
                             have ON := Lib.hid hon
                             have AP2 := Lib.hid hap2
                             have NT2 := Lib.hid hnt
                             clear hs17 hi17 hon hap2 hnt
                             clear hx17 hold)
                          | (with_reducible refine wpList_allocA (t := 81) rfl rfl Try.zeroValue81 ?_
                             rintro nb w18 hb18 hx18 hl18
                             have hxw := Nat.le_trans X.out.size hl18
                             have hns : 0 < d2.ents.length → ∀ b, (Value.slice ae d2.ents.length ce).ownBlock = some b → b ≠ nb := fun h0 b hb => by have := SI.out.own_lt h0 b hb; omega
                             have hon := ON.out.tr (Only.of_ext hx18)
                             have hx0 := Nat.le_trans ON.out.size hl18
                             clear ON
                             have XB := Lib.hid hx18
                             have hlx : w17.heap.size ≤ nb := hl18
                             have AB := Lib.hid hb18
                             have NXW := Lib.hid hxw
                             have NS := Lib.hid hns
                             have ON := Lib.hid hon
                             have NXB := Lib.hid hlx
                             have NX0 := Lib.hid hx0
                             clear hb18 hxw hns hon hlx hx0
                             clear hx18 hl18)
                          | (with_reducible refine wpList_storeK (ty := 81) (cells := #[.int .u64 d2.key, .slice aa l.length ca, .slice ae d2.ents.length ce, .int .i64 d2.closed]) rfl rfl AB.out ?_ ?_ ?_ ?_ ?_ ?_
                             · rfl
                             · rfl
                             · kernel_rfl
                             · rfl
                             · simp [Value.oneCell']
                             rintro w19 hb19 ho19
                             have hx19 := XB.out.then_only ho19 (fun q e => by rw [e]; exact NXB.out)
                             have hon := Only.tr (S := fun k => k = nb ∨ KS lb rb m1 k) (ON.out.weak (fun k _ h => .inr h)) (ho19.weak (fun k _ h => .inl h))
                             have hon2 := hon.weak (T := KS lb rb m1) (fun k hk h => by
                               rcases h with h | h
                               · have := NX0.out; omega
                               · exact h)
                             clear XB ON AB ho19 hon
                             replace X := Lib.hid (X.out.ext hx19)
                             replace RB := Lib.hid (RB.out.ext hx19)
                             replace PB := Lib.hid (PB.out.ext hx19)
                             replace L2 := Lib.hid (L2.out.ext hx19)
                             replace OI := Lib.hid (OI.out.ext hx19)
                             replace AI := Lib.hid (AI.out.ext hx19)
                             replace CI := Lib.hid (CI.out.ext hx19)
                             replace SI := Lib.hid (SI.out.ext hx19)
                             have x5 := PB.out.cell 5
                             have ON := Lib.hid hon2
                             have NB := Lib.hid hb19
                             clear hon2 hb19
                             clear hx19)
                          | (go_at_call 18
                             have hgo := NXB.out
                             refine (sameInts_any ou ou _ _ _ AI.out CI.out).mono ?_
                             rintro e w20 ⟨rfl, n20, hw20⟩
                             rw [decide_eq_true rfl]
                             have hx20 : Ext w19 w20 := by rw [hw20]; exact Ext.of_drewN _ _
                             have hon := ON.out.tr (Only.of_ext hx20)
                             clear ON x5 hw20 NXB hgo
                             replace X := Lib.hid (X.out.ext hx20)
                             replace RB := Lib.hid (RB.out.ext hx20)
                             replace PB := Lib.hid (PB.out.ext hx20)
                             replace L2 := Lib.hid (L2.out.ext hx20)
                             replace OI := Lib.hid (OI.out.ext hx20)
                             replace SI := Lib.hid (SI.out.ext hx20)
                             replace NB := Lib.hid (NB.out.ext hx20)
                             have x5 := PB.out.cell 5
                             have ON := Lib.hid hon
                             clear hon
                             clear hx20)
                          | (go_at_call 18
                             refine (sameInts_any cn cn _ _ _ OI.out (HCN.out.ext X.out)).mono ?_
                             rintro e w21 ⟨rfl, n21, hw21⟩
                             rw [decide_eq_true rfl]
                             have hx21 : Ext w20 w21 := by rw [hw21]; exact Ext.of_drewN _ _
                             have hon := ON.out.tr (Only.of_ext hx21)
                             clear ON x5 hw21
                             replace X := Lib.hid (X.out.ext hx21)
                             replace RB := Lib.hid (RB.out.ext hx21)
                             replace L2 := Lib.hid (L2.out.ext hx21)
                             replace SI := Lib.hid (SI.out.ext hx21)
                             replace NB := Lib.hid (NB.out.ext hx21)
                             have y0 := NB.out.cell 0
                             have y1 := NB.out.cell 1
                             have y2 := NB.out.cell 2
                             have y3 := NB.out.cell 3
                             have ON := Lib.hid hon
                             clear hon
                             clear hx21)
                          | (with_reducible refine wpList_storeK (ty := 81) (cells := #[.int .u64 d2.key, .slice aa l.length ca, .slice ae d2.ents.length ce, .int .i64 d2.closed]) rfl rfl RB.out ?_ ?_ ?_ ?_ ?_ ?_
                             · rfl
                             · rfl
                             · kernel_rfl
                             · rfl
                             · simp [Value.oneCell']
                             rintro w22 hb22 ho22
                             have hx22 := X.out.then_only ho22 (fun q e => by rw [e]; exact LRB.out)
                             obtain ⟨hka, hon⟩ := KA0.out.fin L2.out OK2.out NN2.out AC2.out FAB.out FVA.out F0.out SI.out AP2.out ON.out hb22 ho22
                             have hmd := MD.out.step (m' := m2) hon (fun b h => h) (KS.apart NTB.out) F0.out
                             have hnt := NT2.out
                             clear X L2 SI ON RB MD NTB y0 y1 y2 y3 ho22 hb22 hon
                             have X := Lib.hid hx22
                             have KA1 := Lib.hid hka
                             have MD := Lib.hid hmd
                             have NTB := Lib.hid hnt
                             clear hx22 hka hmd hnt))
                        have r0 := KA1.out.c0
                        have r1 := KA1.out.c1
                        have r2 := KA1.out.c2
                        have r3 := KA1.out.c3
                        go_wp2_with (
                          go_at_call 46
                          refine (HAG.out _ _ _ _ _ _ _ KA1.out X.out).mono ?_
                          rintro e w23 ⟨rfl, hx23⟩
                          replace X := Lib.hid (X.out.ext hx23)
                          replace KA1 := Lib.hid (KA1.out.ext hx23)
                          replace MD := Lib.hid (MD.out.ext hx23)
                          clear hx23 r0 r1 r2 r3)
                        go_roundw
                        case rel => exact ⟨i + 1, d2, m2, .slice ae d2.ents.length ce, by omega, by go_num, KA1, NTB, MD, X⟩
                        case measure => simp [intOf]; omega
                    | false =>
                      as_aux_lemma =>
                        obtain ⟨d2, hd2⟩ : ∃ y, y = postX d ⟨xf, xt, xa, xd⟩ := ⟨_, rfl⟩
                        obtain ⟨er, her⟩ : ∃ y, y = postErr d ⟨xf, xt, xa, xd⟩ := ⟨_, rfl⟩
                        have hok2 : LedOk d2 := by rw [hd2]; exact KA1.out.ok.postX
                        have hnn2 : NN d2 := by rw [hd2]; exact KA1.out.nn.postX
                        have hac2 : d2.acc = d.acc := by rw [hd2]; exact postX_acc _ _
                        have hrp := fun W (h : KA W l B lb d m1 rb (.slice aa l.length ca) (.slice av d.ents.length cv)) (hx : Ext w W) => rPost_any d (.slice aa l.length ca) (.slice av d.ents.length cv) ⟨xf, xt, xa, xd⟩ W (by rw [h.acc]; exact HA.out.ext hx) h.sig h.ok HFIT.out
                        have hru : ∀ W e w', SigIn W (.slice av d.ents.length cv) d.ents → RPostPost W d (.slice aa l.length ca) (.slice av d.ents.length cv) ⟨xf, xt, xa, xd⟩ e w' → Ext W w' ∧ ∃ a c, e = .returned (.tuple #[rLed d2 (.slice aa l.length ca) (.slice a d2.ents.length c), .int .i64 er]) ∧ SigIn w' (.slice a d2.ents.length c) d2.ents ∧ OldOr W.heap.size d (.slice av d.ents.length cv) d2 (.slice a d2.ents.length c) := by
                          rw [hd2, her]
                          exact fun W e w' hs hh => RPostPost.uni hs hh
                        have hpp := fun W (h : LSt W B lb d m1) (hB : B ≤ W.heap.size) => post_any B lb d m1 ⟨xf, xt, xa, xd⟩ W h KA0.out.ok hB HFIT.out
                        have hpu : ∀ W e w', LSt W B lb d m1 → PostPost W B lb d m1 ⟨xf, xt, xa, xd⟩ e w' → ∃ v', e = .returned (.int .i64 er) ∧ LSt w' B lb d2 { m1 with ve := v' } ∧ FreshOr W m1.ve v' ∧ Only (fun k => k = lb ∨ m1.ve.ownBlock = some k) W w' := by
                          rw [hd2, her]
                          exact fun W e w' hs hh => PostPost.uni hs hh
                        unfold rLed entV at hrp
                        unfold rLed at hru
                        unfold entV at hpp
                        have HRP := Lib.hid hrp
                        have HRU := Lib.hid hru
                        have HPP := Lib.hid hpp
                        have HPU := Lib.hid hpu
                        have OK2 := Lib.hid hok2
                        have NN2 := Lib.hid hnn2
                        have AC2 := Lib.hid hac2
                        clear hrp hru hpp hpu hok2 hnn2 hac2
                        clear hd2 her
                        go_upto_region 39 with (first
                          | (go_at_call 45
                             refine (HRP.out _ KA1.out X.out).mono ?_
                             rintro e w16 hh
                             obtain ⟨hx16, ae, ce, rfl, hs16, hold⟩ := HRU.out _ e w16 KA1.out.sig hh
                             have hsz := hx16.size
                             clear hh r0 r1 r2 r3 x0 x1 x2 x3 x4 x5
                             replace X := Lib.hid (X.out.ext hx16)
                             replace KA1 := Lib.hid (KA1.out.ext hx16)
                             replace PB := Lib.hid (PB.out.ext hx16)
                             replace X0 := Lib.hid (X0.out.ext hx16)
                             have hap1 := hold.apart KA0.out (Nat.le_refl _) hs16 (m2 := m1) (.inl rfl) hsz (.inl ⟨hsz, Nat.le_refl _⟩)
                             have SI := Lib.hid hs16
                             have OLD := Lib.hid hold
                             have AP1 := Lib.hid hap1
                             clear hs16 hold hap1
                             clear hx16 hsz)
                          | (with_reducible refine wpList_allocA (t := 81) rfl rfl Try.zeroValue81 ?_
                             rintro nb w17 hb17 hx17 hl17
                             have hx0 := Nat.le_trans X0.out.size hl17
                             have hxw := Nat.le_trans X.out.size hl17
                             have hnk : ∀ b, KT lb d m1 rb (.slice av d.ents.length cv) b → b < nb := fun b hb => Nat.lt_of_lt_of_le (KA1.out.lt b hb) hl17
                             have hns : 0 < d2.ents.length → ∀ b, (Value.slice ae d2.ents.length ce).ownBlock = some b → b ≠ nb := fun h0 b hb => by have := SI.out.own_lt h0 b hb; omega
                             have hnp : pb < nb := Nat.lt_of_lt_of_le PB.out.lt hl17
                             replace X := Lib.hid (X.out.ext hx17)
                             replace KA1 := Lib.hid (KA1.out.ext hx17)
                             replace PB := Lib.hid (PB.out.ext hx17)
                             replace X0 := Lib.hid (X0.out.ext hx17)
                             replace SI := Lib.hid (SI.out.ext hx17)
                             have AB := Lib.hid hb17
                             have NX0 := Lib.hid hx0
                             have NXW := Lib.hid hxw
                             have NK := Lib.hid hnk
                             have NS := Lib.hid hns
                             have NP := Lib.hid hnp
                             clear hb17 hx0 hxw hnk hns hnp
                             clear hx17 hl17)
                          | (with_reducible refine wpList_storeK (ty := 81) (cells := #[.int .u64 d2.key, .slice aa l.length ca, .slice ae d2.ents.length ce, .int .i64 d2.closed]) rfl rfl AB.out ?_ ?_ ?_ ?_ ?_ ?_
                             · rfl
                             · rfl
                             · kernel_rfl
                             · rfl
                             · simp [Value.oneCell']
                             rintro w18 hb18 ho18
                             have hx18 := X.out.then_only ho18 (fun q e => by rw [e]; exact NXW.out)
                             have hx19 := X0.out.then_only ho18 (fun q e => by rw [e]; exact NX0.out)
                             have hka := KA1.out.only ho18 (fun q e hk => by have := NK.out q hk; omega)
                             have hs18 := SI.out.only0 ho18 (fun h0 b hb e => NS.out h0 b hb e)
                             have hp18 := PB.out.only ho18 (fun e => by have := NP.out; omega)
                             clear X X0 KA1 SI PB AB ho18
                             have x1 := hp18.cell 1
                             have x2 := hp18.cell 2
                             have x3 := hp18.cell 3
                             have x4 := hp18.cell 4
                             have X := Lib.hid hx18
                             have X0 := Lib.hid hx19
                             have KA1 := Lib.hid hka
                             have SI := Lib.hid hs18
                             have PB := Lib.hid hp18
                             have NB := Lib.hid hb18
                             clear hx18 hx19 hka hs18 hp18 hb18)
                          | (go_at_call 31
                             refine (HPP.out _ KA1.out.led KA1.out.bs).mono ?_
                             rintro e w19 hh
                             obtain ⟨v19, rfl, hl19, hf19, ho19⟩ := HPU.out _ e w19 KA1.out.led hh
                             clear hh x1 x2 x3 x4
                             have hsz := X0.out.size
                             have hs19 := SI.out.only0 ho19 (fun h0 b hb e => by
                               obtain ⟨a1, a2, a3⟩ := AP1.out h0 b hb
                               rcases e with e | e
                               · exact a1 e
                               · exact a2 e)
                             have hx19 := X.out.then_only ho19 (fun q e => by
                               rcases e with rfl | e
                               · exact KLB.out
                               · exact KVE.out _ e)
                             have hon : Only (KS lb rb m1) _ w19 := (Only.of_ext X0.out).tr (ho19.weak (fun k _ h => h.elim .inl (fun h => .inr (.inr h))))
                             have hrb := KA1.out.ref.only ho19 (fun e => by
                               rcases e with e | e
                               · exact KA0.out.rbl.1 e
                               · exact KA0.out.rbl.2.2.2 e)
                             have hnb := NB.out.only ho19 (fun e => by
                               rcases e with e | e
                               · have := NK.out lb (.inl rfl); omega
                               · have := NK.out nb (.inr (.inr (.inr (.inl e)))); omega)
                             have hap2 := OLD.out.apart KA0.out (Nat.le_refl _) SI.out (m2 := { m1 with ve := v19 }) hf19 hsz (.inl ⟨hsz, Nat.le_refl _⟩)
                             have hnt := KA0.out.napart NTB.out (m2 := { m1 with ve := v19 }) TBL2.out rfl rfl hf19 hsz OLD.out (Nat.le_refl _)
                             have hf0 := hf19.down hsz
                             clear X SI KA1 NB PB X0
                             have y0 := hnb.cell 0
                             have y1 := hnb.cell 1
                             have y2 := hnb.cell 2
                             have y3 := hnb.cell 3
                             have L2 := Lib.hid hl19
                             have SI := Lib.hid hs19
                             have X := Lib.hid hx19
                             have ON := Lib.hid hon
                             have RB := Lib.hid hrb
                             have AP2 := Lib.hid hap2
                             have NT2 := Lib.hid hnt
                             have F0 := Lib.hid hf0
                             clear hl19 hs19 hx19 hon hrb hap2 hnt hf0
                             clear hf19 ho19 hsz)
                          | (with_reducible refine wpList_storeK (ty := 81) (cells := #[.int .u64 d2.key, .slice aa l.length ca, .slice ae d2.ents.length ce, .int .i64 d2.closed]) rfl rfl RB.out ?_ ?_ ?_ ?_ ?_ ?_
                             · rfl
                             · rfl
                             · kernel_rfl
                             · rfl
                             · simp [Value.oneCell']
                             rintro w20 hb20 ho20
                             have hx20 := X.out.then_only ho20 (fun q e => by rw [e]; exact LRB.out)
                             obtain ⟨hka, hon⟩ := KA0.out.fin L2.out OK2.out NN2.out AC2.out rfl rfl F0.out SI.out AP2.out ON.out hb20 ho20
                             have hmd := MD.out.step (m' := { m1 with ve := v19 }) hon (fun b h => h) (KS.apart NTB.out) F0.out
                             have hnt := NT2.out
                             clear X L2 SI ON RB MD NTB y0 y1 y2 y3 ho20 hb20 hon
                             have X := Lib.hid hx20
                             have KA1 := Lib.hid hka
                             have MD := Lib.hid hmd
                             have NTB := Lib.hid hnt
                             clear hx20 hka hmd hnt))
                        have r0 := KA1.out.c0
                        have r1 := KA1.out.c1
                        have r2 := KA1.out.c2
                        have r3 := KA1.out.c3
                        go_wp2_with (
                          go_at_call 46
                          refine (HAG.out _ _ _ _ _ _ _ KA1.out X.out).mono ?_
                          rintro e w21 ⟨rfl, hx21⟩
                          replace X := Lib.hid (X.out.ext hx21)
                          replace KA1 := Lib.hid (KA1.out.ext hx21)
                          replace MD := Lib.hid (MD.out.ext hx21)
                          clear hx21 r0 r1 r2 r3)
                        go_roundw
                        case rel => exact ⟨i + 1, d2, { m1 with ve := v19 }, .slice ae d2.ents.length ce, by omega, by go_num, KA1, NTB, MD, X⟩
                        case measure => simp [intOf]; omega
                · have i5 : (60 : Int) < (cn.length : Int) := by omega
                  clear hcl
                  go_wp2
                  go_roundw
                  case rel => exact ⟨i + 1, d, m1, .slice av d.ents.length cv, by omega, by go_num, KA1, NTB, MD, X⟩
                  case measure => simp [intOf]; omega
              · obtain rfl : i = ds.length := by omega
                clear hlt
                have r0 := KA1.out.c0
                have r1 := KA1.out.c1
                have r2 := KA1.out.c2
                have r3 := KA1.out.c3
                rcases MD.out with ⟨rfl, _⟩ | ⟨lb2, B2, d2, m2, ve2, rfl, hka2, _⟩
                · go_wp2_with (first
                    | (go_at_call 46
                       refine (HAG.out _ _ _ _ _ _ _ KA1.out X.out).mono ?_
                       rintro e w9 ⟨rfl, hx9⟩
                       replace X := Lib.hid (X.out.ext hx9)
                       clear hx9 r0 r1 r2 r3)
                    | (go_at_call 14
                       refine (awake_any _).mono ?_
                       rintro e w6 ⟨rfl, hx6⟩
                       replace X := Lib.hid (X.out.ext hx6)
                       clear hx6
                       )
                    )
                  go_ret
                  exact HP.out _ _ ⟨rfl, X.out⟩
                · obtain ⟨av2, cv2, rfl, _⟩ := hka2.sig.form
                  have t0 := hka2.c0
                  have t1 := hka2.c1
                  have t2 := hka2.c2
                  have t3 := hka2.c3
                  have KA2 := Lib.hid hka2
                  have KAX := KA1
                  clear hka2
                  go_wp2_with (first
                    | (go_at_call 46
                       refine (HAG.out _ _ _ _ _ _ _ KAX.out X.out).mono ?_
                       rintro e w9 ⟨rfl, hx9⟩
                       replace KA2 := Lib.hid (KA2.out.ext hx9)
                       replace X := Lib.hid (X.out.ext hx9)
                       clear hx9 r0 r1 r2 r3 KAX t0 t1 t2 t3
                       have t0 := KA2.out.c0
                       have t1 := KA2.out.c1
                       have t2 := KA2.out.c2
                       have t3 := KA2.out.c3)
                    | (go_at_call 46
                       refine (HAG.out _ _ _ _ _ _ _ KA2.out X.out).mono ?_
                       rintro e w10 ⟨rfl, hx10⟩
                       replace X := Lib.hid (X.out.ext hx10)
                       clear hx10 t0 t1 t2 t3)
                    | (go_at_call 14
                       refine (awake_any _).mono ?_
                       rintro e w6 ⟨rfl, hx6⟩
                       replace X := Lib.hid (X.out.ext hx6)
                       clear hx6
                       )
                    )
                  go_ret
                  exact HP.out _ _ ⟨rfl, X.out⟩
      · have hne : (er != 0) = true := by simpa using hc
        have hc3 : checkE l ≠ 0 := by rw [← her]; exact hc
        have hnw := fun W (k : AccIn W (.slice aa l.length ca) l) => rNew_bad key l _ W k hc3
        have hnp := fun (W : World) (v1 : Value) (h1 : AccIn W v1 l) => new_any key l v1 W h1
        have HNP : Hid (∀ W e w1, NewPost W key l e w1 → e = .returned (.tuple #[.pointer none, .int .i64 er]) ∧ Ext W w1) := fun W e w1 hh => by
          rcases hh with ⟨_, h2, h3⟩ | ⟨h1, _⟩
          · exact ⟨by rw [h2, ← her], h3⟩
          · exact absurd h1 hc3
        rw [← her] at hnw
        have HNW := Lib.hid hnw
        have HN := Lib.hid hnp
        clear hnw hnp
        clear her hc hc3 hk q1 q2
        go_enter Try.func10, Try.ntmps10
        go_wp2_with (first
          | (go_at_call 25
             refine (accounts_any l _ _ HA.out HB.out).mono ?_
             rintro e w1 ⟨v1, rfl, hx1, ho1⟩
             have h1 : AccIn w1 v1 l := StIn.of_owns accC_len ho1 hal
             obtain ⟨a1, c1, rfl⟩ := row_form ho1
             have X1 := Lib.hid hx1
             have X := Lib.hid hx1
             have I1 := Lib.hid h1
             have OX := Lib.hid ho1
             clear hx1 h1 ho1
             )
          | (go_at_call 40
             refine (HN.out _ _ I1.out).mono ?_
             rintro e w2 hh
             obtain ⟨rfl, hx2⟩ := HNP.out _ e w2 hh
             have hoxb : ∀ b, (Value.slice a1 l.length c1).ownBlock = some b → b < w1.heap.size := fun b hb => (OX.out.lt b hb).2
             clear hh OX X1
             replace X := Lib.hid (X.out.ext hx2)
             replace I1 := Lib.hid (I1.out.ext hx2)
             have OXB := Lib.hid hoxb
             have X12 := Lib.hid hx2
             clear hoxb hx2)
          | (go_at_call 41
             refine (HNW.out _ (HA.out.ext X.out)).mono ?_
             rintro e w3 ⟨rfl, hx3⟩
             replace X := Lib.hid (X.out.ext hx3)
             replace I1 := Lib.hid (I1.out.ext hx3)
             replace X12 := Lib.hid (X12.out.ext hx3)
             clear hx3)
          | (with_reducible refine wpList_allocA (t := 81) rfl rfl Try.zeroValue81 ?_
             rintro rb w4 hb4 hx4 hl4
             have lrb := Nat.le_trans X.out.size hl4
             have l1r := Nat.le_trans X12.out.size hl4
             replace X := Lib.hid (X.out.ext hx4)
             replace I1 := Lib.hid (I1.out.ext hx4)
             have RB := Lib.hid hb4
             have LRB := Lib.hid lrb
             have L1R := Lib.hid l1r
             clear hb4 lrb l1r
             clear hx4 hl4)
          | (with_reducible refine wpList_storeK (ty := 81) (cells := #[.int .u64 0, .slice none 0 0, .slice none 0 0, .int .i64 0]) rfl rfl RB.out ?_ ?_ ?_ ?_ ?_ ?_
             · rfl
             · rfl
             · kernel_rfl
             · rfl
             · simp [Value.oneCell']
             rintro w5 hb5 ho5
             have hi5 : AccIn w5 (.slice a1 l.length c1) l := StIn.only accC_len I1.out ho5 (fun b hb e => by have := OXB.out b hb; have := L1R.out; omega)
             have hx5 := X.out.then_only ho5 (fun q e => by rw [e]; exact LRB.out)
             clear X I1 RB ho5 hb5
             have X := Lib.hid hx5
             have I1 := Lib.hid hi5
             clear hx5 hi5)
          | (go_at_call 26
             refine (check_any l _ _ I1.out).mono ?_
             rintro e w6 ⟨rfl, hx6⟩
             rw [HCE.out]
             replace X := Lib.hid (X.out.ext hx6)
             clear hx6 I1)
          | (go_at_call 42
             refine (rCheck_any l _ _ (HA.out.ext X.out)).mono ?_
             rintro e w7 ⟨rfl, n7, hw7⟩
             rw [HCE.out]
             have hx7 : Ext w6 w7 := by rw [hw7]; exact Ext.of_drewN _ _
             replace X := Lib.hid (X.out.ext hx7)
             clear hx7 hw7)
          | (go_at_call 14
             refine (awake_any _).mono ?_
             rintro e w6 ⟨rfl, hx6⟩
             replace X := Lib.hid (X.out.ext hx6)
             clear hx6
             )
          )
        go_ret
        exact HP.out _ _ ⟨rfl, X.out⟩
    · have i2 : (30 : Int) < (ds.length : Int) := by omega
      clear q1 q2
      go_enter Try.func10, Try.ntmps10
      go_wp2_with (go_at_call 14; refine (awake_any _).mono ?_; rintro e w6 ⟨rfl, hx6⟩)
      go_ret
      exact HP.out _ _ ⟨rfl, hx6⟩
  · have i1 : (60 : Int) < (l.length : Int) := by omega
    clear q1
    go_enter Try.func10, Try.ntmps10
    go_wp2_with (go_at_call 14; refine (awake_any _).mono ?_; rintro e w6 ⟨rfl, hx6⟩)
    go_ret
    exact HP.out _ _ ⟨rfl, hx6⟩
end Go.Proofs.Ytekplfbfkfiabaa
