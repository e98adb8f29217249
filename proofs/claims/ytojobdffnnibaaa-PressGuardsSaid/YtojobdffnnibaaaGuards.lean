/- PressGuards: the walk. -/
import Derived.Test.YtojobdffnnibaaaGuards0
import Derived.Test.YtojobdffnnibaaaAwake7
import Derived.Deep.CutBlock
namespace Go.Proofs.Ytojobdffnnibaaa
open Go.RowKit
set_option linter.unusedVariables false
set_option linter.unusedSimpArgs false

set_option maxRecDepth 100000 in
set_option maxHeartbeats 4000000 in
theorem guards_true (p : PressD) (xs : List Int) (vj vn : Value) (w : World) (hj : Truths w vj p.jam) (hjl : p.jam.length ≤ 140737488355328) (hn : Ints w vn xs) (hb : ∀ x ∈ xs, I64 x) :
    Calls Try.prog 5 #[pV vj p, vn] w fun e w' => e = .returned (.bool true) ∧ Ext w w' := by
  have hown := fun W (k : Ext w W) => own_any p vj W (Sl.ext hj k) hjl
  obtain ⟨_, aj, cj, hvj, _⟩ := hj
  rw [List.length_map] at hvj
  subst hvj
  have hn0 := hn
  obtain ⟨hnl, an, cn, hvn, _, hcn⟩ := hn
  rw [List.length_map] at hvn hcn hnl
  subst hvn
  obtain ⟨nj, hnj⟩ : ∃ m, p.jam.length = m := ⟨_, rfl⟩
  obtain ⟨nx, hnx⟩ : ∃ m, xs.length = m := ⟨_, rfl⟩
  rw [hnj] at hjl ⊢
  rw [hnx] at hnl hcn ⊢
  unfold pV at hown ⊢
  rw [hnj] at hown
  have HOWN := Lib.hid hown
  have HB := Lib.hid hb
  have HNJ := Lib.hid hnj
  have HNX := Lib.hid hnx
  have HCN := Lib.hid hcn
  clear hown hb hnj hnx hcn
  clear hn0
  go_enter Try.func5, Try.ntmps5
  go_upto_region 2 with (first
    | (with_reducible refine wpList_boxA (t := 24) (cs := #[.slice aj nj cj, .int .i64 p.warm, .int .i64 p.tail, .int .i64 p.dirt]) rfl rfl rfl ?_
       rintro xb w1 hx1 hx2 hx3
       have c1 := hx1.cell
       clear hx3
       have XB := Lib.hid hx1
       have X := Lib.hid hx2
       clear hx1 hx2)
    | (have hgd := HOWN.out
       go_at_call 11
       refine (hgd _ X.out).mono ?_
       rintro e w2 ⟨v1, rfl, hx, ho1⟩
       obtain ⟨va, ca, rfl⟩ := row_form ho1
       clear hgd HOWN c1
       have xb2 := XB.out.ext hx
       have x2 := X.out.tr hx
       clear XB X hx
       have XB := Lib.hid xb2
       have X := Lib.hid x2
       have OA := Lib.hid ho1
       clear xb2 x2 ho1)
    | (with_reducible refine wpList_allocA (t := 32) rfl rfl Try.zeroValue32 ?_
       rintro pb w3 hx1 hx2 hx3
       have lz : w2.heap.size ≤ pb := hx3
       clear hx3
       have PB := Lib.hid hx1
       have Z := Lib.hid hx2
       have LZ := Lib.hid lz
       clear hx1 hx2 lz)
    | (with_reducible refine wpList_storeK (ty := 32) (cells := #[.slice va nj ca, .int .i64 p.warm, .int .i64 p.tail, .int .i64 p.dirt]) rfl rfl PB.out ?_ ?_ ?_ ?_ ?_ ?_
       · rfl
       · rfl
       · kernel_rfl
       · rfl
       · simp [Value.oneCell']
       rintro w4 hb4 ho4
       have hx := Z.out.then_only ho4 (fun k (e : k = pb) => by rw [e]; exact LZ.out)
       have xb2 := XB.out.ext hx
       have x2 := X.out.tr hx
       have oa2 := owns_ext OA.out hx
       have c1 := xb2.cell
       have c2 := hb4.cell
       clear XB X OA Z LZ PB ho4 hx
       have XB := Lib.hid xb2
       have X := Lib.hid x2
       have OA := Lib.hid oa2
       have PB := Lib.hid hb4
       clear xb2 x2 oa2 hb4))
  have htr : Truths w4 (.slice va nj ca) p.jam := Sl.of_owns OA.out
  have hck := fun W (k : Ext w4 W) => check_any p (.slice va nj ca) W (Sl.ext htr k)
  obtain ⟨e1, he1⟩ : ∃ e, pErr p = e := ⟨_, rfl⟩
  rw [he1] at hck
  have HCK := Lib.hid hck
  have HTR := Lib.hid htr
  have HE1 := Lib.hid he1
  clear hck htr he1
  by_cases h1 : e1 = 0
  · subst h1
    by_cases h2 : 200 < nx
    · have i1 : (200:Int) < (nx:Int) := by omega
      · go_wp2_with (first
          | (go_at_call 19
             refine (HCK.out _ (Below.refl _ _)).mono ?_
             rintro e w5 ⟨rfl, hx⟩
             clear c1 c2
             have c1 := (XB.out.ext hx).cell
             have x2 := X.out.tr hx
             clear X hx HCK
             have X := Lib.hid x2
             clear x2)
          | (go_at_call 10
             refine (awake_any _).mono ?_
             rintro e w6 ⟨rfl, hx⟩
             have x2 := X.out.tr hx
             clear X hx
             have X := Lib.hid x2
             clear x2))
        go_ret
        exact ⟨rfl, X.out⟩
    · have i1 : decide ((200:Int) < (nx:Int)) = false := decide_eq_false (by omega)
      have hl := pErr_len HE1.out
      rw [HNJ.out] at hl
      have i2 : decide ((3:Int) < (nj:Int)) = false := decide_eq_false (by omega)
      have i3 : ((nj:Int) == 0) = false := by simp; omega
      have i3' : decide ((nj:Int) = 0) = false := decide_eq_false (by omega)
      have hnx : nx ≤ 200 := by omega
      clear h2
      go_upto_region 4 with (
        go_at_call 19
        refine (HCK.out _ (Below.refl _ _)).mono ?_
        rintro e w5 ⟨rfl, hx⟩
        have xb2 := XB.out.ext hx
        have pb2 := PB.out.ext hx
        have x2 := X.out.tr hx
        have tr2 := Sl.ext HTR.out hx
        clear c1 c2 XB PB X HTR hx HCK
        have c1 := xb2.cell
        have c2 := pb2.cell
        have X := Lib.hid x2
        have XB := Lib.hid xb2
        have PB := Lib.hid pb2
        have HTR := Lib.hid tr2
        clear x2 xb2 pb2 tr2)
      have hbg := fun W (k : Ext w5 W) => gd_begin (.slice va nj ca) W (Sl.ext HTR.out k) HE1.out
      have hbl : (beginD p).units.length = nj := by simp [beginD]; exact HNJ.out
      have hgB := begin_good HE1.out
      obtain ⟨B0, hB0⟩ : ∃ B, beginD p = B := ⟨_, rfl⟩
      rw [hB0] at hbg hbl hgB
      unfold pV sV at hbg

      clear i2 i3 i3' hB0
      have HBG := Lib.hid hbg
      have HBL := Lib.hid hbl
      have HGB := Lib.hid hgB
      clear hbg hbl hgB
      go_upto_region 5 with (first
        | (go_at_call 20
           refine (HBG.out _ (Below.refl _ _)).mono ?_
           rintro e w6 ⟨v, rfl, hown, hx⟩
           obtain ⟨ab, cb, rfl⟩ := hown.form
           have xb2 := XB.out.ext hx
           have pb2 := PB.out.ext hx
           have x2 := X.out.tr hx
           have tr2 := Sl.ext HTR.out hx
           clear c1 c2 XB PB X HTR hx HBG
           have X := Lib.hid x2
           have XB := Lib.hid xb2
           have PB := Lib.hid pb2
           have HTR := Lib.hid tr2
           have OW := Lib.hid hown
           clear x2 xb2 pb2 tr2 hown)
        | (with_reducible refine wpList_allocA (t := 36) rfl rfl Try.zeroValue36 ?_
           rintro sb w7 hx1 hx2 hx3
           have lz : w6.heap.size ≤ sb := hx3
           clear hx3
           have x6 := X.out
           have SB := Lib.hid hx1
           have Z := Lib.hid hx2
           have LZ := Lib.hid lz
           have X6 := Lib.hid x6
           clear hx1 hx2 lz x6)
        | (with_reducible refine wpList_storeK (ty := 36) (cells := #[.int .i64 B0.drive, .bool B0.folder, .slice ab B0.units.length cb, .int .i64 B0.fresh]) rfl rfl SB.out ?_ ?_ ?_ ?_ ?_ ?_
           · rfl
           · rfl
           · kernel_rfl
           · rfl
           · simp [Value.oneCell']
           rintro w8 hb8 ho8
           have hx := Z.out.then_only ho8 (fun k (e : k = sb) => by rw [e]; exact LZ.out)
           have xb2 := XB.out.ext hx
           have pb2 := PB.out.ext hx
           have x2 := X.out.tr hx
           have tr2 := Sl.ext HTR.out hx
           have ow2 := OW.out.ext hx
           have c1 := xb2.cell
           have c2 := hb8.cell
           have xb6 := XB.out
           have pb6 := PB.out
           have tr6 := HTR.out
           clear XB PB X HTR OW Z SB ho8
           have X := Lib.hid x2
           have XB6 := Lib.hid xb6
           have PB6 := Lib.hid pb6
           have TR6 := Lib.hid tr6
           have OW := Lib.hid ow2
           have SB := Lib.hid hb8
           have X68 := Lib.hid hx
           clear x2 xb6 pb6 tr6 ow2 hb8 hx))
      rw [HBL.out] at c2 SB
      have j1 : ((nj:Int) != (nj:Int)) = false := by simp
      go_upto_region 8 with (fail)
      clear c1 c2 j1
      go_loopw [8] (fun t8 wr => ∃ (k : Nat) (t : StD) (vt : Value), k ≤ nx ∧ t8 = .int .i64 k ∧ Hid (Good p t) ∧ Hid (Blk wr sb #[.int .i64 t.drive, .bool t.folder, vt, .int .i64 t.fresh] 36) ∧ Hid (OwU wr vt t) ∧ Hid (Ext w6 wr)) (fun t8 _ => nx - (intOf t8).toNat)
      case atStart => exact ⟨0, B0, .slice ab nj cb, by omega, rfl, HGB, SB, by have := OW.out; rw [HBL.out] at this; exact this, X68⟩
      case round =>
        obtain ⟨k, t, vt, hk, rfl, GT, SB2, OT, X2⟩ := hrel
        obtain ⟨ta, tc, rfl⟩ := OT.out.form
        have htl : t.units.length = nj := by rw [GT.out.len]; exact HNJ.out
        rw [htl] at SB2 OT
        by_cases hlt : k < nx
        · obtain ⟨bn, on, rfl, hc⟩ := HCN.out (by omega)
          have hkx : k < xs.length := by rw [HNX.out]; exact hlt
          have d0 := X2.out.cellSome (X6.out.cellSome (hc k (.int .i64 xs[k]) (by simp [hkx])))
          have hxb := HB.out xs[k] (List.getElem_mem hkx)
          obtain ⟨x, hx⟩ : ∃ x, xs[k] = x := ⟨_, rfl⟩
          rw [hx] at d0 hxb
          have hp := pick_pos x 1000 (by omega)
          obtain ⟨m, hm⟩ : ∃ m : Nat, pick x 1000 = m := ⟨(pick x 1000).toNat, by omega⟩
          have hpk := fun W => pick_any x 1000 W hxb (by unfold I64; decide)
          rw [hm] at hpk hp
          have c1 := (XB6.out.ext X2.out).cell
          have c2 := (PB6.out.ext X2.out).cell
          have c3 := SB2.out.cell
          have i1 : (0:Int) ≤ (k:Int) := by omega
          have i2 : (k:Int) < (nx:Int) := by omega
          clear hc hx hm
          have HPK := Lib.hid hpk
          clear hpk
          go_upto_region 12 with (
            go_at_call 17
            refine (HPK.out _).mono ?_
            rintro e wz ⟨rfl, rfl⟩)
          obtain ⟨i, hi⟩ : ∃ i : Nat, (m:Int) / 14 % (nj:Int) = i := ⟨m / 14 % nj, by simp⟩
          have hij : i < nj := by
            have : (m:Int) / 14 % (nj:Int) < nj := Int.emod_lt_of_pos _ (by omega)
            omega
          rw [hi]
          obtain ⟨r, hr⟩ : ∃ r : Nat, m % 14 = r := ⟨_, rfl⟩
          have hr14 : r < 14 := by omega
          have hri : (m:Int) % 14 = (r:Int) := by omega
          obtain ⟨q, hq⟩ : ∃ q : Nat, m / 14 = q := ⟨_, rfl⟩
          have hq72 : q < 72 := by omega
          have hqi : (m:Int) / 14 = (q:Int) := by omega
          clear d0 hi hr hq
          have HRI := Lib.hid hri
          have HQI := Lib.hid hqi
          clear hri hqi
          go_upto_block 2 with (first
            | (with_reducible refine wpList_allocA (t := 36) rfl rfl Try.zeroValue36 ?_
               rintro nb w9 hx1 hx2 hx3
               have lz : wr.heap.size ≤ nb := hx3
               have hsn : sb ≠ nb := fun e => by have := SB2.out.lt; omega
               clear hx3 c1 c2 c3
               have NB := Lib.hid hx1
               have Z := Lib.hid hx2
               have LZ2 := Lib.hid lz
               have NSN := Lib.hid hsn
               clear hx1 hx2 lz hsn)
            | (with_reducible refine wpList_storeK (ty := 36) (cells := #[.int .i64 t.drive, .bool t.folder, .slice ta nj tc, .int .i64 t.fresh]) rfl rfl NB.out ?_ ?_ ?_ ?_ ?_ ?_
               · rfl
               · rfl
               · kernel_rfl
               · rfl
               · simp [Value.oneCell']
               rintro w10 hb ho
               have hx := Z.out.then_only ho (fun k (e : k = nb) => by rw [e]; exact LZ2.out)
               clear Z NB ho
               have NB := Lib.hid hb
               have Y := Lib.hid hx
               clear hb hx))
          have xb7 := XB6.out.ext (X2.out.tr Y.out)
          have pb7 := PB6.out.ext (X2.out.tr Y.out)
          have tr7 := Sl.ext TR6.out (X2.out.tr Y.out)
          have sb7 := SB2.out.ext Y.out
          have ot7 := OT.out.ext Y.out
          have XB7 := Lib.hid xb7
          have PB7 := Lib.hid pb7
          have HTR7 := Lib.hid tr7
          have SB7 := Lib.hid sb7
          have OT7 := Lib.hid ot7
          clear xb7 pb7 tr7 sb7 ot7
          go_cut [12] (fun v12 W => ∃ (t' : StD) (er : Int) (a' : Option Addr) (c' : Nat), v12 = .int .i64 er ∧ Hid (okE er) ∧ Hid (er = 0 → Good p t') ∧ Hid (Blk W nb #[.int .i64 t'.drive, .bool t'.folder, .slice a' t'.units.length c', .int .i64 t'.fresh] 36) ∧ Hid (OwU W (.slice a' t'.units.length c') t') ∧ Hid (Ext wr W))
          case first =>
            as_aux_lemma =>
              have c2 := PB7.out.cell
              have c3 := SB7.out.cell
              have hbk := fun W (k : Ext w10 W) => gd_break GT.out i (by rw [htl]; exact hij) (.slice va nj ca) (.slice ta nj tc) W (Sl.ext HTR7.out k) (OT7.out.ext k)
              have hpr := fun W (k : Ext w10 W) => gd_print GT.out (q:Int) (by omega) (.slice va nj ca) (.slice ta nj tc) W (Sl.ext HTR7.out k) (OT7.out.ext k)
              have hdo := fun (j : Nat) (hj : j < nj) (hj2 : 7 ≤ (r:Int) + 1 ∧ (r:Int) + 1 ≤ 11 → j = 0) (hr : r < 12) W (k : Ext w10 W) => gd_do GT.out ((r:Int) + 1) j (by omega) (by rw [htl]; exact hj) hj2 (.slice va nj ca) (.slice ta nj tc) W (Sl.ext HTR7.out k) (OT7.out.ext k)
              unfold pV sV at hbk hpr hdo
              have hrr := HRI.out
              have hqq := HQI.out
              have lw : Ext w10 w10 := Below.refl _ _
              have HBK := Lib.hid hbk
              have HPR := Lib.hid hpr
              have HDO := Lib.hid hdo
              have LW := Lib.hid lw
              clear hbk hpr hdo lw
              by_cases h12 : r = 12
              · have f1 : ((m:Int) % 14 == 12) = true := by rw [hrr, h12]; rfl
                clear h12 hrr hqq
                go_wp2_with (first
                  | (go_at_call 21
                     refine (HBK.out _ LW.out).mono ?_
                     rintro e w11 ⟨t', lo, er, v', rfl, hok, hg, ho, hx⟩
                     obtain ⟨a', c', rfl⟩ := ho.form
                     clear c2 c3
                     have HOK := Lib.hid hok
                     have HG := Lib.hid hg
                     have OW11 := Lib.hid ho
                     have HX11 := Lib.hid hx
                     clear hok hg ho hx)
                  | (with_reducible refine wpList_storeK (ty := 36) (cells := #[.int .i64 t'.drive, .bool t'.folder, .slice a' t'.units.length c', .int .i64 t'.fresh]) rfl rfl (NB.out.ext HX11.out) ?_ ?_ ?_ ?_ ?_ ?_
                     · rfl
                     · rfl
                     · kernel_rfl
                     · rfl
                     · simp [Value.oneCell']
                     rintro w12 hb ho
                     have hy := (Y.out.tr HX11.out).then_only ho (fun k (e : k = nb) => by rw [e]; exact LZ2.out)
                     have hw : OwU w12 (.slice a' t'.units.length c') t' := owns_only OW11.out ho (owns_ne' OW11.out (NB.out.ext HX11.out) (by decide))
                     clear ho
                     have NB2 := Lib.hid hb
                     have Y2 := Lib.hid hy
                     have OW2 := Lib.hid hw
                     clear hb hy hw)
                  | fail)
                go_meet
                case rel => exact ⟨t', er, a', c', rfl, HOK, HG, NB2, OW2, Y2⟩
              · have f1 : ((m:Int) % 14 == 12) = false := by rw [hrr]; simp; omega
                by_cases h13 : r = 13
                · have f2 : ((m:Int) % 14 == 13) = true := by rw [hrr, h13]; rfl
                  clear h12 h13 hrr
                  go_wp2_with (first
                    | (go_at_call 13
                       refine (HPR.out _ LW.out).mono ?_
                       rintro e w11 ⟨t', vw, er, v', rfl, hok, hg, ho, hx⟩
                       obtain ⟨a', c', rfl⟩ := ho.form
                       clear c2 c3
                       have HOK := Lib.hid hok
                       have HG := Lib.hid hg
                       have OW11 := Lib.hid ho
                       have HX11 := Lib.hid hx
                       clear hok hg ho hx)
                    | (with_reducible refine wpList_storeK (ty := 36) (cells := #[.int .i64 t'.drive, .bool t'.folder, .slice a' t'.units.length c', .int .i64 t'.fresh]) rfl rfl (NB.out.ext HX11.out) ?_ ?_ ?_ ?_ ?_ ?_
                       · rfl
                       · rfl
                       · kernel_rfl
                       · rfl
                       · simp [Value.oneCell']
                       rintro w12 hb ho
                       have hy := (Y.out.tr HX11.out).then_only ho (fun k (e : k = nb) => by rw [e]; exact LZ2.out)
                       have hw : OwU w12 (.slice a' t'.units.length c') t' := owns_only OW11.out ho (owns_ne' OW11.out (NB.out.ext HX11.out) (by decide))
                       clear ho
                       have NB2 := Lib.hid hb
                       have Y2 := Lib.hid hy
                       have OW2 := Lib.hid hw
                       clear hb hy hw)
                    | fail)
                  go_meet
                  case rel => exact ⟨t', er, a', c', rfl, HOK, HG, NB2, OW2, Y2⟩
                · have f2 : ((m:Int) % 14 == 13) = false := by rw [hrr]; simp; omega
                  have hr12 : r < 12 := by omega
                  clear hqq
                  by_cases h7 : 7 ≤ (r:Int) + 1
                  · by_cases h11 : (r:Int) + 1 ≤ 11
                    · have hd := HDO.out 0 (by omega) (fun _ => rfl) hr12
                      rw [← hrr] at h7 h11 hd
                      clear h12 h13 hrr hr12
                      have HD := Lib.hid hd
                      clear hd
                      go_wp2_with (first
                        | (go_at_call 22
                           refine (HD.out _ LW.out).mono ?_
                           rintro e w11 ⟨t', er, v', rfl, hok, hg, ho, hx⟩
                           obtain ⟨a', c', rfl⟩ := ho.form
                           clear c2 c3
                           have HOK := Lib.hid hok
                           have HG := Lib.hid hg
                           have OW11 := Lib.hid ho
                           have HX11 := Lib.hid hx
                           clear hok hg ho hx)
                        | (with_reducible refine wpList_storeK (ty := 36) (cells := #[.int .i64 t'.drive, .bool t'.folder, .slice a' t'.units.length c', .int .i64 t'.fresh]) rfl rfl (NB.out.ext HX11.out) ?_ ?_ ?_ ?_ ?_ ?_
                           · rfl
                           · rfl
                           · kernel_rfl
                           · rfl
                           · simp [Value.oneCell']
                           rintro w12 hb ho
                           have hy := (Y.out.tr HX11.out).then_only ho (fun k (e : k = nb) => by rw [e]; exact LZ2.out)
                           have hw : OwU w12 (.slice a' t'.units.length c') t' := owns_only OW11.out ho (owns_ne' OW11.out (NB.out.ext HX11.out) (by decide))
                           clear ho
                           have NB2 := Lib.hid hb
                           have Y2 := Lib.hid hy
                           have OW2 := Lib.hid hw
                           clear hb hy hw)
                        | fail)
                      go_meet
                      case rel => exact ⟨t', er, a', c', rfl, HOK, HG, NB2, OW2, Y2⟩
                    · have hd := HDO.out i hij (fun h => absurd h.2 h11) hr12
                      have i5 : decide ((m:Int) % 14 + 1 ≤ 11) = false := decide_eq_false (by omega)
                      rw [← hrr] at h7 hd
                      clear h12 h13 hrr hr12 h11
                      have HD := Lib.hid hd
                      clear hd
                      go_wp2_with (first
                        | (go_at_call 22
                           refine (HD.out _ LW.out).mono ?_
                           rintro e w11 ⟨t', er, v', rfl, hok, hg, ho, hx⟩
                           obtain ⟨a', c', rfl⟩ := ho.form
                           clear c2 c3
                           have HOK := Lib.hid hok
                           have HG := Lib.hid hg
                           have OW11 := Lib.hid ho
                           have HX11 := Lib.hid hx
                           clear hok hg ho hx)
                        | (with_reducible refine wpList_storeK (ty := 36) (cells := #[.int .i64 t'.drive, .bool t'.folder, .slice a' t'.units.length c', .int .i64 t'.fresh]) rfl rfl (NB.out.ext HX11.out) ?_ ?_ ?_ ?_ ?_ ?_
                           · rfl
                           · rfl
                           · kernel_rfl
                           · rfl
                           · simp [Value.oneCell']
                           rintro w12 hb ho
                           have hy := (Y.out.tr HX11.out).then_only ho (fun k (e : k = nb) => by rw [e]; exact LZ2.out)
                           have hw : OwU w12 (.slice a' t'.units.length c') t' := owns_only OW11.out ho (owns_ne' OW11.out (NB.out.ext HX11.out) (by decide))
                           clear ho
                           have NB2 := Lib.hid hb
                           have Y2 := Lib.hid hy
                           have OW2 := Lib.hid hw
                           clear hb hy hw)
                        | fail)
                      go_meet
                      case rel => exact ⟨t', er, a', c', rfl, HOK, HG, NB2, OW2, Y2⟩
                  · have hd := HDO.out i hij (fun h => absurd h.1 h7) hr12
                    have i5 : decide (7 ≤ (m:Int) % 14 + 1) = false := decide_eq_false (by omega)
                    rw [← hrr] at hd
                    clear h12 h13 hrr hr12 h7
                    have HD := Lib.hid hd
                    clear hd
                    go_wp2_with (first
                      | (go_at_call 22
                         refine (HD.out _ LW.out).mono ?_
                         rintro e w11 ⟨t', er, v', rfl, hok, hg, ho, hx⟩
                         obtain ⟨a', c', rfl⟩ := ho.form
                         clear c2 c3
                         have HOK := Lib.hid hok
                         have HG := Lib.hid hg
                         have OW11 := Lib.hid ho
                         have HX11 := Lib.hid hx
                         clear hok hg ho hx)
                      | (with_reducible refine wpList_storeK (ty := 36) (cells := #[.int .i64 t'.drive, .bool t'.folder, .slice a' t'.units.length c', .int .i64 t'.fresh]) rfl rfl (NB.out.ext HX11.out) ?_ ?_ ?_ ?_ ?_ ?_
                         · rfl
                         · rfl
                         · kernel_rfl
                         · rfl
                         · simp [Value.oneCell']
                         rintro w12 hb ho
                         have hy := (Y.out.tr HX11.out).then_only ho (fun k (e : k = nb) => by rw [e]; exact LZ2.out)
                         have hw : OwU w12 (.slice a' t'.units.length c') t' := owns_only OW11.out ho (owns_ne' OW11.out (NB.out.ext HX11.out) (by decide))
                         clear ho
                         have NB2 := Lib.hid hb
                         have Y2 := Lib.hid hy
                         have OW2 := Lib.hid hw
                         clear hb hy hw)
                      | fail)
                    go_meet
                    case rel => exact ⟨t', er, a', c', rfl, HOK, HG, NB2, OW2, Y2⟩
          case rest =>
          obtain ⟨t', er, a', c', rfl, HOK, HG, NB2, OW2, Y2⟩ := hcut
          obtain ⟨w13, rfl⟩ : ∃ W, W = wc := ⟨wc, rfl⟩
          clear XB7 PB7 HTR7 SB7 OT7 Y NB HRI HQI
          have hx6 := X2.out.tr Y2.out
          have sb8 := SB2.out.ext Y2.out
          have ot8 := OT.out.ext Y2.out
          have X3 := Lib.hid hx6
          have SB8 := Lib.hid sb8
          have OT8 := Lib.hid ot8
          clear hx6 sb8 ot8
          by_cases he : er = 0
          · subst he
            have hgt := HG.out rfl
            have htl2 : t'.units.length = nj := by rw [hgt.len]; exact HNJ.out
            have hnb := NB2.out
            have how := OW2.out
            rw [htl2] at hnb how
            have c1 := (XB6.out.ext X3.out).cell
            have c2 := (PB6.out.ext X3.out).cell
            have c3 := hnb.cell
            have hsf := gd_safe hgt (.slice va nj ca) (.slice a' nj c') w13 (Sl.ext TR6.out X3.out) how
            have hag := fun W (k : Ext w13 W) => against_good p t' (.slice a' nj c') W hgt ((how.ext k).un (by rw [htl2]; omega)) (by rw [htl2]; omega)
            unfold pV sV at hsf
            unfold sV at hag
            have j1 : ((nj:Int) != (nj:Int)) = false := by simp
            clear htl2
            have HSF := Lib.hid hsf
            have HAG := Lib.hid hag
            have HGT := Lib.hid hgt
            have NB3 := Lib.hid hnb
            have OW3 := Lib.hid how
            clear hsf hag hgt hnb how
            clear NB2 OW2 HG HOK
            go_wp2_with (first
              | (go_at_call 23
                 refine HSF.out.mono ?_
                 rintro e w14 ⟨rfl, hx⟩
                 clear c1 c2 c3
                 have c1 := (XB6.out.ext (X3.out.tr hx)).cell
                 have c3 := (NB3.out.ext hx).cell
                 have Y4 := Lib.hid hx
                 clear hx)
              | (go_at_call 24
                 refine (HAG.out _ Y4.out).mono ?_
                 rintro e w15 ⟨rfl, hx⟩
                 clear c1 c3
                 have y5 := Y4.out.tr hx
                 have c1 := (XB6.out.ext (X3.out.tr y5)).cell
                 have c3 := (NB3.out.ext y5).cell
                 clear hx
                 have Y5 := Lib.hid y5
                 clear y5)
              | (with_reducible refine wpList_storeK (ty := 36) (cells := #[.int .i64 t'.drive, .bool t'.folder, .slice a' nj c', .int .i64 t'.fresh]) rfl rfl (SB8.out.ext Y5.out) ?_ ?_ ?_ ?_ ?_ ?_
                 · rfl
                 · rfl
                 · kernel_rfl
                 · rfl
                 · simp [Value.oneCell']
                 rintro w16 hb ho
                 have hx7 := (X3.out.tr Y5.out).then_only ho (fun k (e : k = sb) => by rw [e]; exact LZ.out)
                 have how := owns_only (OW3.out.ext Y5.out) ho (owns_ne' (OW3.out.ext Y5.out) (SB8.out.ext Y5.out) (by decide))
                 clear ho
                 have SB9 := Lib.hid hb
                 have X9 := Lib.hid hx7
                 have OW9 := Lib.hid how
                 clear hb hx7 how))
            go_roundw
            case rel => exact ⟨k + 1, t', .slice a' nj c', by omega, by go_num, HGT, SB9, OW9, X9⟩
            case measure => first | (simp [intOf]; done) | (simp [intOf]; omega)
          · have hok := HOK.out
            have h86 : er = 80 ∨ er = 6 := by rcases hok with h | h | h; exact absurd h he; exact .inl h; exact .inr h
            clear hok he HOK HG NB2 OW2
            rcases h86 with rfl | rfl
            all_goals
              go_wp2
              go_roundw
              case rel => exact ⟨k + 1, t, .slice ta nj tc, by omega, by go_num, GT, SB8, OT8, X3⟩
              case measure => first | (simp [intOf]; done) | (simp [intOf]; omega)
        · have i2 : decide ((k:Int) < (nx:Int)) = false := decide_eq_false (by omega)
          have xe := X6.out.tr X2.out
          clear SB2 OT
          have XE := Lib.hid xe
          clear xe
          go_wp2_with (
            go_at_call 10
            refine (awake_any _).mono ?_
            rintro e w6' ⟨rfl, hx⟩
            have x2 := XE.out.tr hx
            clear hx
            have XF := Lib.hid x2
            clear x2)
          go_ret
          exact ⟨rfl, XF.out⟩
  · have f1 : (e1 != 0) = true := by simp [h1]
    · go_wp2_with (first
        | (go_at_call 19
           refine (HCK.out _ (Below.refl _ _)).mono ?_
           rintro e w5 ⟨rfl, hx⟩
           clear c1 c2
           have c1 := (XB.out.ext hx).cell
           have x2 := X.out.tr hx
           clear X hx HCK
           have X := Lib.hid x2
           clear x2)
        | (go_at_call 10
           refine (awake_any _).mono ?_
           rintro e w6 ⟨rfl, hx⟩
           have x2 := X.out.tr hx
           clear X hx
           have X := Lib.hid x2
           clear x2))
      go_ret
      exact ⟨rfl, X.out⟩
end Go.Proofs.Ytojobdffnnibaaa
