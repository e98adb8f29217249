/- The reference: Closed. PressFinds: lists of integers copied and compared; what is found has small numbers. The reference: Verify and Closed. -/
import Derived.Test.YtojobdffnnibaaaGreatLyF
import Derived.Test.YtojobdffnnibaaaGreatPClosed
import Derived.Test.YtojobdffnnibaaaGreatSteps
import Derived.Test.YtojobdffnnibaaaGreatPVerify
import Derived.Test.YtojobdffnnibaaaGreatActsG
namespace Go.Proofs.YtojobdffnnibaaaGreat
open Go.RowKit
set_option linter.unusedVariables false
set_option linter.unusedSimpArgs false

/-- The codes below c that were seen, in order. -/
def cdU (L : List StepD) (c : Nat) : List Int := ((List.range c).filter (seenC L)).map fun n : Nat => (n : Int)
theorem cdU_yes {L : List StepD} {c : Nat} (h : seenC L c = true) : cdU L (c + 1) = cdU L c ++ [(c:Int)] := by
  unfold cdU
  rw [List.range_succ, List.filter_append, List.map_append, List.filter_cons_of_pos h]
  simp
theorem cdU_no {L : List StepD} {c : Nat} (h : seenC L c = false) : cdU L (c + 1) = cdU L c := by
  unfold cdU
  rw [List.range_succ, List.filter_append, List.map_append, List.filter_cons_of_neg (by simp [h])]
  simp
theorem cdU_len (L : List StepD) (c : Nat) : (cdU L c).length ≤ c := by
  unfold cdU
  rw [List.length_map]
  exact Nat.le_trans (List.length_filter_le _ _) (by simp)
theorem cdU_all {p : PressD} {s : StD} (F : ClosedF p s) (hl : s.units.length ≤ 3) : cdU (closedL p s) 30000 = codesS p s := by
  have hmem : ∀ x, x ∈ cdU (closedL p s) 30000 ↔ x ∈ codesD p s := fun x => by
    unfold cdU codesD seenC
    simp only [List.mem_map, List.mem_filter, List.mem_range, List.any_eq_true, beq_iff_eq]
    constructor
    · rintro ⟨n, ⟨_, y, hy, e⟩, rfl⟩
      exact ⟨y, hy, e⟩
    · rintro ⟨y, hy, rfl⟩
      obtain ⟨c, hc, hlt⟩ := code_lt (F.fit y hy) hl
      exact ⟨c, ⟨by omega, y, hy, hc⟩, hc.symm⟩
  have hpw : (cdU (closedL p s) 30000).Pairwise (· < ·) := by
    unfold cdU
    rw [List.pairwise_map]
    refine (List.Pairwise.filter _ (List.pairwise_lt_range (n := 30000))).imp fun h => by omega
  have hnd : (cdU (closedL p s) 30000).Nodup := by
    rw [List.nodup_iff_pairwise_ne]
    exact hpw.imp fun h => by omega
  have hperm : (cdU (closedL p s) 30000).Perm (codesS p s) := ((List.perm_ext_iff_of_nodup hnd F.nodup).2 hmem).trans (codesS_perm p s).symm
  refine List.Perm.eq_of_pairwise (le := fun x y : Int => decide (x ≤ y) = true) (fun a b _ _ h1 h2 => ?_) (hpw.imp fun h => by simp; omega) (List.pairwise_mergeSort (fun a b c h1 h2 => ?_) (fun a b => ?_) _) hperm
  · simp at h1 h2; omega
  · simp at h1 h2 ⊢; omega
  · simp; omega
theorem seenC_take {L : List StepD} {k : Nat} (h : k < L.length) (c : Nat) : seenC (L.take (k + 1)) c = (seenC (L.take k) c || codeD L[k].at_ == (c : Int)) := by
  rw [List.take_succ_eq_append_getElem h, seenC_snoc]

set_option maxRecDepth 100000 in
set_option maxHeartbeats 4000000 in
theorem rClosed_any (p : PressD) (s : StD) (vj vu : Value) (w : World) (hj : Truths w vj p.jam) (hu : UnIn w vu s.units) (hl : s.units.length ≤ 1000000) :
    Calls Tryz.prog 17 #[pV vj p, sV vu s] w (ClosedPost w p s) := by
  have hst := fun W (k : Ext w W) => rStarted_any p s vj vu W (Sl.ext hj k) (hu.ext k) hl
  have hlay := fun (gd : Good p s) W (k : Ext w W) => rLayers_any gd vj vu W (Sl.ext hj k) (hu.ext k)
  obtain ⟨a, c, rfl, Hu⟩ := hu.form
  obtain ⟨_, aj, cj, hvj, _⟩ := id hj
  rw [List.length_map] at hvj
  subst hvj
  clear hj hu Hu
  unfold pV sV at *
  obtain ⟨e1, he1⟩ : ∃ e, stErr p s = e := ⟨_, rfl⟩
  rw [he1] at hst
  have HST := Lib.hid hst
  have HLAY := Lib.hid hlay
  have HE1 := Lib.hid he1
  have HL := Lib.hid hl
  clear hst hlay he1 hl
  go_enter Tryz.func17, Tryz.ntmps17
  go_upto_region 2 with (first
    | (with_reducible refine wpList_boxA (t := 24) (cs := #[.slice aj p.jam.length cj, .int .i64 p.warm, .int .i64 p.tail, .int .i64 p.dirt]) rfl rfl rfl ?_
       rintro xb w1 hx1 hx2 hx3
       have PB := Lib.hid hx1
       have X1 := Lib.hid hx2
       clear hx1 hx2
       clear hx3)
    | (with_reducible refine wpList_boxA (t := 27) (cs := #[.int .i64 s.drive, .bool s.folder, .slice a s.units.length c, .int .i64 s.fresh]) rfl rfl rfl ?_
       rintro sb w2 hy1 hy2 hy3
       have pb2 := PB.out.ext hy2
       have x2 := X1.out.tr hy2
       have c1 := pb2.cell
       have c2 := hy1.cell
       clear PB X1
       have SB := Lib.hid hy1
       have PB := Lib.hid pb2
       have X1 := Lib.hid x2
       clear hy1 pb2 x2
       clear hy3 hy2)
    | (go_at_call 46
       refine (HST.out _ X1.out).mono ?_
       rintro e w4 ⟨rfl, hx⟩
       have pb2 := PB.out.ext hx
       have sb2 := SB.out.ext hx
       have x2 := X1.out.tr hx
       clear c1 c2 PB X1 hx HST SB
       have c1 := pb2.cell
       have c2 := sb2.cell
       have X1 := Lib.hid x2
       clear x2))
  by_cases h1 : e1 = 0
  · subst h1
    have gd : Good p s := (good_iff p s).1 HE1.out
    have hlay2 := HLAY.out gd
    have hsm := gd.small.1
    have F := closed_all (p := p) gd.dr hsm
    have hdr := gd.dr
    have HLAY2 := Lib.hid hlay2
    have HDR := Lib.hid hdr
    have HF := Lib.hid F
    clear hlay2 hdr F
    go_upto_region 7 with (first
      | (go_at_call 38
         refine (HLAY2.out _ X1.out).mono ?_
         rintro e w5 ⟨v1, v2, rfl, hout, hx⟩
         have x2 := X1.out.tr hx
         obtain ⟨fu, fb, r1, r2, r3⟩ := hout
         obtain ⟨a1, c1', hv1⟩ := row_form r1
         subst hv1
         have r3' := fun j h => (r3 j h).1
         clear c1 c2 X1 hx HLAY2 HLAY r2 r3
         have X1 := Lib.hid x2
         have R1 := Lib.hid r1
         have R3 := Lib.hid r3'
         clear x2 r1 r3')
      | (with_reducible refine wpList_makeBits rfl rfl rfl rfl ?_
         rintro bb N30 w6 hN30 hbits hx hlb
         have BI := Lib.hid hbits
         have HN30 := Lib.hid hN30
         have X56 := Lib.hid hx
         have LB := Lib.hid hlb
         clear hbits hN30 hx hlb))
    obtain ⟨L, hL⟩ : ∃ L, closedL p s = L := ⟨_, rfl⟩
    rw [hL] at R1
    have r3 := R3.out
    rw [hL] at r3
    have hfit := HF.out.fit
    rw [hL] at hfit
    have hlen : L.length ≤ 32768 := by rw [← hL]; obtain ⟨e, _⟩ := closed_round (p := p) (s := s) HDR.out; rw [e]; exact (round_ok HDR.out _).len
    have hall := cdU_all HF.out hsm
    rw [hL] at hall
    clear R3
    rw [hL]
    have b0 : Bits w6 bb (seenC (L.take 0)) := BI.out.congr fun c => rfl
    clear BI
    have R3 := Lib.hid r3
    have HFIT := Lib.hid hfit
    have BI := Lib.hid b0
    have HALL := Lib.hid hall
    clear r3 hfit b0 hall
    go_loopw [10] (fun t10 wr => ∃ i : Nat, i ≤ L.length ∧ t10 = .int .i64 i ∧ Hid (Bits wr bb (seenC (L.take i))) ∧ Hid (Ext w5 wr)) (fun t10 _ => L.length - (intOf t10).toNat)
    case atStart => exact ⟨0, Nat.zero_le _, rfl, BI, X56⟩
    case round =>
      obtain ⟨i, hi, rfl, HB, HX⟩ := hrel
      by_cases hlt : i < L.length
      · have hr := R3.out i hlt
        have hft := HFIT.out L[i] (List.getElem_mem hlt)
        have hget := fun j hj => stR_get fu L i j hlt hj
        have hstp := seenC_take hlt
        obtain ⟨x, hx⟩ : ∃ x, L[i] = x := ⟨_, rfl⟩
        rw [hx] at hget hft hstp
        have hr2 : UnIn w5 (fu i) x.at_.units := by rw [← hx]; exact hr
        obtain ⟨t, tk, tu, tf⟩ := x
        dsimp only at hr2 hget hft hstp
        obtain ⟨ta, tc, htv⟩ := hr2.slice hft.len
        rw [htv] at hr2 hget
        obtain ⟨g1, o1, rfl, hc1⟩ := row_cells R1.out (by omega)
        have d0 : wr.cell? ⟨g1, o1 + i * 4, none⟩ = some (.int .i64 t.drive) := HX.out.cellSome (hc1 _ _ (hget 0 (by omega)))
        have d1 : wr.cell? ⟨g1, o1 + i * 4 + 1, none⟩ = some (.bool t.folder) := HX.out.cellSome (hc1 _ _ (hget 1 (by omega)))
        have d2 : wr.cell? ⟨g1, o1 + i * 4 + 2, none⟩ = some (.slice ta s.units.length tc) := HX.out.cellSome (hc1 _ _ (hget 2 (by omega)))
        have d3 : wr.cell? ⟨g1, o1 + i * 4 + 3, none⟩ = some (.int .i64 t.fresh) := HX.out.cellSome (hc1 _ _ (hget 3 (by omega)))
        obtain ⟨q1, hq1, hq1l⟩ := code_lt hft hsm
        have hco := fun W (k : Ext wr W) => rCode0_any t (.slice ta s.units.length tc) W (hr2.ext (HX.out.tr k)) (by rw [hft.len]; exact hsm) hft.dr
        unfold sV at hco
        rw [hq1] at hco hstp
        have i0 : (0:Int) ≤ (i:Int) := by omega
        have i1 : (i:Int) < (L.length:Int) := by omega
        have j0 : (0:Int) ≤ (q1:Int) := by omega
        have j1 : (q1:Int) < (N30:Int) := by rw [HN30.out]; omega
        have hlb := LB.out
        have hx5 := HX.out.size
        clear hget hc1 htv hr hr2 hft hx hq1
        have HCO := Lib.hid hco
        have HSTP := Lib.hid hstp
        clear hco hstp
        go_wp2_with (first
          | (go_at_call 47
             refine (HCO.out _ (Below.refl _ _)).mono ?_
             rintro e wA ⟨rfl, hx⟩
             have bi2 := HB.out.ext hx
             obtain ⟨bcs, hbc, hbs⟩ := bi2.blk
             have x2 := HX.out.tr hx
             clear d0 d1 d2 d3 HX HB HCO hx
             have HX := Lib.hid x2
             have HB := Lib.hid bi2
             have BC := Lib.hid hbc
             clear x2 bi2 hbc)
          | (with_reducible refine wpList_setK (b := bb) (i := q1) (v := .bool true) rfl rfl BC.out ?_ ?_ ?_ ?_ ?_ ?_ ?_
             · rfl
             · rfl
             · omega
             · rfl
             · rfl
             · rfl
             rintro wB hb ho
             have bi2 := (HB.out.set BC.out hb).congr fun c => show (seenC (L.take i) c || c == q1) = seenC (L.take (i + 1)) c by
               rw [HSTP.out]
               congr 1
               rw [Bool.eq_iff_iff, beq_iff_eq, beq_iff_eq]
               omega
             have x2 := HX.out.then_only ho (fun b (e : b = bb) => by rw [e]; exact hlb)
             clear HX HB hb ho
             have HX := Lib.hid x2
             have HB := Lib.hid bi2
             clear x2 bi2))
        go_roundw
        case rel => exact ⟨i + 1, by omega, by go_num, HB, HX⟩
        case measure => first | (simp [intOf]; done) | (simp [intOf]; omega)
      · have i1 : decide ((i:Int) < (L.length:Int)) = false := decide_eq_false (by omega)
        obtain rfl : i = L.length := by omega
        have hb := HB.out
        rw [List.take_length] at hb
        clear HB
        obtain ⟨w7, rfl⟩ : ∃ W, W = wr := ⟨wr, rfl⟩
        have hw7 : w.heap.size ≤ w7.heap.size := (X1.out.tr HX.out).size
        have HB := Lib.hid hb
        have HW7 := Lib.hid hw7
        clear hb hw7
        go_upto_region 12 with (fail)
        clear i1
        go_loopw [11, 12] (fun v11 t12 wr => ∃ (q m : Nat), q ≤ 30000 ∧ t12 = .int .i64 q ∧ m ≤ q ∧ Hid (m = (cdU L q).length) ∧ Hid (wr.ownsRow w7.heap.size 3 1 v11 m ((cdU L q).map (Value.int .i64))) ∧ Hid (Ext w7 wr)) (fun _ t12 _ => 30000 - (intOf t12).toNat)
        case atStart => exact ⟨0, 0, Nat.zero_le _, rfl, Nat.le_refl _, rfl, World.ownsRow_nil _ _ _ _, Below.refl _ _⟩
        case round =>
          obtain ⟨q, m, hq, rfl, hmq, HM, HR, HX2⟩ := hrel
          obtain ⟨a11, c11, rfl⟩ := row_form HR.out
          by_cases hlq : q < 30000
          · have bt := (HB.out.ext HX2.out).cell (c := q) hlq
            have hy := cdU_yes (L := L) (c := q)
            have hn := cdU_no (L := L) (c := q)
            obtain ⟨kn, hkn⟩ : ∃ b, seenC L q = b := ⟨_, rfl⟩
            rw [hkn] at bt hy hn
            have i0 : (0:Int) ≤ (q:Int) := by omega
            have i1 : (q:Int) < 30000 := by omega
            have i2 : (q:Int) < (N30:Int) := by rw [HN30.out]; omega
            clear hkn
            cases kn
            · have hnn := hn rfl
              clear hy hn
              have HN := Lib.hid hnn
              clear hnn
              go_wp2
              go_roundw
              case rel => exact ⟨q + 1, m, by omega, by go_num, by omega, by rw [HN.out]; exact HM, by rw [HN.out]; exact HR, HX2⟩
              case measure => first | (simp [intOf]; done) | (simp [intOf]; omega)
            · have hyy := hy rfl
              have hmm : m + 1 = (cdU L (q + 1)).length := by rw [hyy, List.length_append, ← HM.out]; rfl
              clear hy hn
              have HY := Lib.hid hyy
              have HMM := Lib.hid hmm
              clear hyy hmm
              go_wp2_with (
                at_builtin
                refine wpList_app (n := m) (m := 1) tNums rfl rfl (v := .slice a11 m c11) rfl (owns_ext HR.out (ext_lit _ _ _)) rfl (Src.lit _ [.int .i64 q] 1 1 rfl 3 1) (by simp [Value.oneCell']) (by omega) (Nat.le_trans HX2.out.size (by simp)) ?_
                rintro v' w10 t1 t2 t3
                have xt := (HX2.out.tr (ext_lit _ _ _)).then_only (only_grown t2) (fun b hb => (HR.out.lt b hb).1)
                rw [show (cdU L q).map (Value.int .i64) ++ [.int .i64 (q:Int)] = (cdU L (q + 1)).map (Value.int .i64) by rw [HY.out, List.map_append]; rfl] at t1
                clear HR HX2 bt t2 t3
                have HR := Lib.hid t1
                have HX2 := Lib.hid xt
                clear t1 xt)
              go_roundw
              case rel => exact ⟨q + 1, m + 1, by omega, by go_num, by omega, HMM, HR, HX2⟩
              case measure => first | (simp [intOf]; done) | (simp [intOf]; omega)
          · have i1 : decide ((q:Int) < 30000) = false := decide_eq_false (by omega)
            obtain rfl : q = 30000 := by omega
            have hr := HR.out
            rw [HM.out, HALL.out] at hr
            have hml : m = (codesS p s).length := by rw [HM.out, HALL.out]
            have HRR := Lib.hid hr
            have HML := Lib.hid hml
            clear hr hml
            go_wp2
            go_ret2
            exact .inr ⟨HE1.out, _, rfl, owns_weak (by rw [HML.out]; exact HRR.out) HW7.out, X1.out.tr (HX.out.tr HX2.out)⟩
  · have f1 : (e1 != 0) = true := by simp [h1]
    have hne : stErr p s ≠ 0 := by rw [HE1.out]; exact h1
    clear h1
    have HNE := Lib.hid hne
    clear hne
    go_wp2
    go_ret2
    exact .inl ⟨HNE.out, by rw [HE1.out] <;> rfl, X1.out⟩
end Go.Proofs.YtojobdffnnibaaaGreat

namespace Go.Proofs.YtojobdffnnibaaaGreat
open Go.RowKit
set_option linter.unusedVariables false
set_option linter.unusedSimpArgs false

theorem share {G T : Prop} (h : T → G) (hT : T) : G := h hT

theorem copyInts_own (xs : List Int) (va : Value) (w : World) (ha : Ints w va xs) (hb : xs.length ≤ 1000000) :
    Calls Tryz.prog 19 #[va] w fun e w' => ∃ v, e = .returned v ∧ Ext w w' ∧ w'.ownsRow w.heap.size 3 1 v xs.length (xs.map (.int .i64)) := by
  go_enter Tryz.func19, Tryz.ntmps19
  go_wp2_with (at_builtin; refine wpList_app tNums rfl rfl (v := .slice none 0 0) rfl (World.ownsRow_nil _ w.heap.size _ _) rfl ha.src (by simp [Value.oneCell']) (by simp; omega) (Nat.le_refl _) ?_; rintro v' w' h1 h2 h3)
  go_ret
  refine ⟨v', rfl, (Below.refl _ _).grown h2 (Nat.le_refl _) (by simp [Value.ownBlock]), by simpa using h1⟩
theorem sameInts_eq (xs : List Int) (va vb : Value) (w : World) (ha : Ints w va xs) (hb : Ints w vb xs) :
    Calls Tryz.prog 18 #[va, vb] w fun e w' => e = .returned (.bool true) ∧ Ext w w' := by
  have hx := ha.len
  obtain ⟨a, c, rfl, Ha⟩ := ha.form
  obtain ⟨b, d, rfl, Hb⟩ := hb.form
  clear ha hb
  obtain ⟨n, hn⟩ : ∃ n, xs.length = n := ⟨_, rfl⟩
  rw [hn] at hx ⊢
  have HN := Lib.hid hn
  clear hn
  go_enter Tryz.func18, Tryz.ntmps18
  have hne : ((n:Int) != (n:Int)) = false := by simp
  go_upto_region 4 with (fail)
  clear hne
  go_loopw [5] (fun t wr => ∃ k : Nat, k ≤ n ∧ t = .int .i64 k ∧ Hid (Ext w wr)) (fun t _ => n - (intOf t).toNat)
  case atStart => exact ⟨0, Nat.zero_le _, rfl, Below.refl _ _⟩
  case round =>
    obtain ⟨k, hk, rfl, HX⟩ := hrel
    by_cases hlt : k < n
    · have hkx : k < xs.length := by rw [HN.out]; exact hlt
      obtain ⟨b1, o1, h1, hc1⟩ := Ha.out.cells (by omega)
      obtain ⟨b2, o2, h2, hc2⟩ := Hb.out.cells (by omega)
      subst h1
      subst h2
      have c1 := HX.out.cellSome (hc1 k hkx)
      have c2 := HX.out.cellSome (hc2 k hkx)
      obtain ⟨x, hx⟩ : ∃ x, xs[k] = x := ⟨_, rfl⟩
      rw [hx] at c1 c2
      clear hc1 hc2 hx
      have i1 : (0:Int) ≤ (k:Int) := by omega
      have i2 : (k:Int) < (n:Int) := by omega
      go_upto_region 6 with (fail)
      go_quiet (fail)
      have xq := HX.out.tr (Ext.of_drewN wr nq)
      generalize wr.drewN nq = wq at *
      clear HX
      have HX := Lib.hid xq
      clear xq
      go_wp2
      go_roundw
      case rel => exact ⟨k+1, by omega, by go_num, HX⟩
      case measure => first | (simp [intOf]; done) | (simp [intOf]; omega)
    · have i2 : decide ((k:Int) < (n:Int)) = false := decide_eq_false (by omega)
      go_wp2
      go_ret
      exact ⟨rfl, HX.out⟩

/-- The kinds of the steps are small. -/
def KOk (l : List StepD) : Prop := ∀ x ∈ l, 0 ≤ x.kind ∧ x.kind ≤ 12
theorem addStep_kok {p : PressD} {i : Nat} {s : StD} {l : List StepD} {a : Int × Nat} (ha : 0 ≤ a.1 ∧ a.1 ≤ 12) (h : KOk l) : KOk (addStep p i s l a) := by
  unfold addStep
  split
  · dsimp only
    split
    · exact h
    · intro x hx
      rcases List.mem_append.1 hx with hx | hx
      · exact h x hx
      · rw [List.mem_singleton] at hx; subst hx; exact ha
  · exact h
theorem foldl_kok {p : PressD} {i : Nat} {s : StD} : ∀ (ks : List (Int × Nat)) {l : List StepD}, (∀ a ∈ ks, 0 ≤ a.1 ∧ a.1 ≤ 12) → KOk l → KOk (ks.foldl (addStep p i s) l)
  | [], _, _, h => h
  | k :: ks, _, ha, h => foldl_kok ks (fun a hm => ha a (List.mem_cons_of_mem _ hm)) (addStep_kok (ha k List.mem_cons_self) h)
theorem round_kok (p : PressD) (s : StD) : ∀ i, KOk (roundL p s i)
  | 0 => fun x hx => by unfold roundL at hx; rw [List.mem_singleton] at hx; subst hx; exact ⟨Int.le_refl 0, (by decide : (0:Int) ≤ 12)⟩
  | i + 1 => by
    have ih := round_kok p s i
    unfold roundL
    split
    · exact ih
    · unfold expandD
      refine foldl_kok _ (fun a ha => ?_) ih
      unfold kindsD at ha
      simp only [List.mem_flatMap, List.mem_range, List.mem_map] at ha
      obtain ⟨k, hk, u, hu, rfl⟩ := ha
      dsimp only
      omega
theorem backD_kok {l : List StepD} (h : KOk l) : ∀ (f : Nat) (i : Int), ∀ a ∈ backD l f i, 0 ≤ a.1 ∧ a.1 ≤ 12
  | 0, _, a, ha => by unfold backD at ha; cases ha
  | f + 1, i, a, ha => by
    unfold backD at ha
    split at ha
    · cases ha
    · rename_i t ht
      split at ha
      · cases ha
      · rcases List.mem_cons.1 ha with rfl | ha
        · exact h t (List.mem_of_getElem? ht)
        · exact backD_kok h f _ a ha
theorem findL_i64 (p : PressD) (s : StD) (g : GoalD) : ∀ a ∈ findL p s g, I64 a.1 := by
  intro a ha
  unfold findL at ha
  split at ha
  · rename_i he
    have hge : goErr p s g = 0 := by
      unfold fiErr at he
      by_cases h : goErr p s g = 0
      · exact h
      · rw [if_pos h] at he; exact absurd he h
    obtain ⟨gd, _⟩ := goErr_len hge
    rcases seek_round (p := p) (s := s) g gd.dr with ⟨h3, _⟩ | ⟨j, hj, _, _, _, h6⟩
    · unfold fiErr at he
      rw [if_neg (by rw [hge]; simp), if_pos h3] at he
      cases he
    · rw [h6] at ha
      obtain ⟨e, _⟩ := closed_round (p := p) (s := s) gd.dr
      unfold byL at ha
      rw [e] at ha
      have := backD_kok (round_kok p s _) _ _ a (List.mem_reverse.1 ha)
      exact ⟨by omega, by omega⟩
  · cases ha
theorem findL_len (p : PressD) (s : StD) (g : GoalD) : (findL p s g).length ≤ 40000 := by
  unfold findL
  split
  · unfold findD
    rw [List.length_reverse]
    exact backD_cut _ _ _
  · simp
theorem codesS_i64 {p : PressD} {s : StD} (g : Good p s) : ∀ c ∈ codesS p s, I64 c := by
  intro c hc
  rw [← cdU_all (closed_all g.dr g.small.1) g.small.1] at hc
  unfold cdU at hc
  obtain ⟨n, hn, rfl⟩ := List.mem_map.1 hc
  have := List.mem_range.1 (List.mem_filter.1 hn).1
  exact ⟨by omega, by omega⟩
theorem codesS_le {p : PressD} {s : StD} (g : Good p s) : (codesS p s).length ≤ 30000 := by
  rw [← cdU_all (closed_all g.dr g.small.1) g.small.1]
  exact cdU_len _ _
end Go.Proofs.YtojobdffnnibaaaGreat

namespace Go.Proofs.YtojobdffnnibaaaGreat
open Go.RowKit
set_option linter.unusedVariables false
set_option linter.unusedSimpArgs false

theorem progR_ne2 (p : PressD) : ∀ (l : List (Int × Int)) (s : StD) (i : Nat), (progR p s i l).2.2 ≠ 2
  | [], s, i => by rw [progR_nil]; exact (by decide : (0:Int) ≠ 2)
  | a :: l, s, i => by
    by_cases h : actErr p s a.1 a.2 = 0
    · rw [progR_ok h]; exact progR_ne2 p l _ _
    · rw [progR_no h]
      dsimp only
      unfold actErr
      split
      · decide
      · split
        · decide
        · split <;> decide

set_option maxRecDepth 100000 in
set_option maxHeartbeats 4000000 in
theorem rVerify_any (p : PressD) (s : StD) (g : GoalD) (l : List (Int × Int)) (vj vu vg vl : Value) (w : World) (hj : Truths w vj p.jam) (hu : UnIn w vu s.units) (hg : Truths w vg g.pressed) (hl : s.units.length ≤ 1000000) (hv : AcIn w vl l) :
    Calls Tryz.prog 15 #[pV vj p, sV vu s, gV vg g, vl] w fun e w' => e = .returned (.int .i64 (vfErr p s g l)) ∧ Ext w w' := by
  have haim := fun W (k : Ext w W) => rAimed_any p s g vj vu vg W (Sl.ext hj k) (hu.ext k) (Sl.ext hg k) hl
  have hpro := fun W (k : Ext w W) => rProgram_any p s l vj vu vl W (Sl.ext hj k) (hu.ext k) hl (hv.ext k)
  have hful := fun (t : StD) (va : Value) (h1 : g.pressed.length = t.units.length) (h2 : t.units.length ≤ 1000000) W (k : Ext w W) (h : UnIn W va t.units) => rFulfils_any t g va vg W h (Sl.ext hg k) h1 h2
  obtain ⟨a, c, rfl, Hu⟩ := hu.form
  obtain ⟨_, aj, cj, hvj, _⟩ := id hj
  rw [List.length_map] at hvj
  subst hvj
  obtain ⟨_, ag, cg, hvg, _⟩ := id hg
  rw [List.length_map] at hvg
  subst hvg
  obtain ⟨al, cl, rfl, HV⟩ := hv.form
  clear hj hu hg Hu hv HV
  unfold pV sV gV at *
  obtain ⟨e1, he1⟩ : ∃ e, goErr p s g = e := ⟨_, rfl⟩
  rw [he1] at haim
  have HAIM := Lib.hid haim
  have HPRO := Lib.hid hpro
  have HFUL := Lib.hid hful
  have HE1 := Lib.hid he1
  have HL := Lib.hid hl
  clear haim hpro hful he1 hl
  go_enter Tryz.func15, Tryz.ntmps15
  go_upto_region 2 with (first
    | (with_reducible refine wpList_boxA (t := 24) (cs := #[.slice aj p.jam.length cj, .int .i64 p.warm, .int .i64 p.tail, .int .i64 p.dirt]) rfl rfl rfl ?_
       rintro xb w1 hx1 hx2 hx3
       have PB := Lib.hid hx1
       have X1 := Lib.hid hx2
       clear hx1 hx2
       clear hx3)
    | (with_reducible refine wpList_boxA (t := 27) (cs := #[.int .i64 s.drive, .bool s.folder, .slice a s.units.length c, .int .i64 s.fresh]) rfl rfl rfl ?_
       rintro sb w2 hy1 hy2 hy3
       have pb2 := PB.out.ext hy2
       have x2 := X1.out.tr hy2
       clear PB X1
       have SB := Lib.hid hy1
       have PB := Lib.hid pb2
       have X1 := Lib.hid x2
       clear hy1 pb2 x2
       clear hy3 hy2)
    | (with_reducible refine wpList_boxA (t := 29) (cs := #[.int .i64 g.drive, .slice ag g.pressed.length cg]) rfl rfl rfl ?_
       rintro gb w3 hy1 hy2 hy3
       have pb2 := PB.out.ext hy2
       have sb2 := SB.out.ext hy2
       have x2 := X1.out.tr hy2
       have c1 := pb2.cell
       have c2 := sb2.cell
       have c3 := hy1.cell
       clear PB X1 SB
       have GB := Lib.hid hy1
       have X1 := Lib.hid x2
       have PB := Lib.hid pb2
       have SB := Lib.hid sb2
       clear hy1 x2 pb2 sb2
       clear hy3 hy2)
    | (go_at_call 37
       refine (HAIM.out _ X1.out).mono ?_
       rintro e w4 ⟨rfl, hx⟩
       have pb2 := PB.out.ext hx
       have sb2 := SB.out.ext hx
       have gb2 := GB.out.ext hx
       have x2 := X1.out.tr hx
       clear c1 c2 c3 PB GB X1 hx HAIM SB
       have c1 := pb2.cell
       have c2 := sb2.cell
       have c3 := gb2.cell
       have X1 := Lib.hid x2
       have PB := Lib.hid pb2
       have SB := Lib.hid sb2
       have GB := Lib.hid gb2
       clear x2 pb2 sb2 gb2))
  by_cases h1 : e1 = 0
  · subst h1
    obtain ⟨gd, hgl, _⟩ := goErr_len HE1.out
    have hs0 : stErr p s = 0 := (good_iff p s).2 gd
    have hpg : pgErr p s l = if 200 < l.length then 2 else 0 := by unfold pgErr; rw [if_neg (by rw [hs0]; simp)]
    have hvf : vfErr p s g l = if 200 < l.length then 2 else if (progR p s 0 l).2.2 = 0 ∧ fulD g (progR p s 0 l).1 = true then 0 else 7 := by unfold vfErr; rw [if_neg (by rw [HE1.out]; simp)]
    obtain ⟨T, hT⟩ : ∃ T, pgS p s l = T := ⟨_, rfl⟩
    obtain ⟨N, hN⟩ : ∃ N, pgN p s l = N := ⟨_, rfl⟩
    obtain ⟨E, hE⟩ : ∃ E, pgE p s l = E := ⟨_, rfl⟩
    have hpro2 := fun W (k : Ext w W) => HPRO.out W k
    rw [hT, hN, hE] at hpro2
    have HPRO2 := Lib.hid hpro2
    have HT := Lib.hid hT
    have HN := Lib.hid hN
    have HE := Lib.hid hE
    have HPG := Lib.hid hpg
    have HVF := Lib.hid hvf
    have HGL := Lib.hid hgl
    clear hpro2 hT hN hE hpg hvf hgl
    go_upto_region 5 with (first
      | (go_at_call 41
         refine (HPRO2.out _ X1.out).mono ?_
         rintro e w5 ⟨vt, rfl, hun, hx, _⟩
         obtain ⟨at_, ct, hvt, _⟩ := hun.form
         subst hvt
         have gb2 := GB.out.ext hx
         have x2 := X1.out.tr hx
         clear c1 c2 c3 PB GB X1 hx HPRO2 SB HPRO
         have X1 := Lib.hid x2
         have GB := Lib.hid gb2
         have UN := Lib.hid hun
         clear x2 gb2 hun)
      | (with_reducible refine wpList_allocA (t := 27) rfl rfl Tryz.zeroValue27 ?_
         rintro rb w6 hy1 hy2 hy3
         have lr : w5.heap.size ≤ rb := hy3
         have RB := Lib.hid hy1
         have Z := Lib.hid hy2
         have LR := Lib.hid lr
         clear hy1 hy2 lr
         clear hy3)
      | (with_reducible refine wpList_storeK (ty := 27) (cells := #[.int .i64 T.drive, .bool T.folder, .slice at_ T.units.length ct, .int .i64 T.fresh]) rfl rfl RB.out ?_ ?_ ?_ ?_ ?_ ?_
         · rfl
         · rfl
         · rfl
         · rfl
         · simp [Value.oneCell']
         rintro w7 hb7 ho7
         have hx := Z.out.then_only ho7 (fun k (e : k = rb) => by rw [e]; exact LR.out)
         have gb2 := GB.out.ext hx
         have x2 := X1.out.tr hx
         have un2 := UN.out.ext hx
         have c3 := gb2.cell
         have c4 := hb7.cell
         clear X1 GB UN ho7 hx RB Z
         have X1 := Lib.hid x2
         have UN := Lib.hid un2
         have GB := Lib.hid gb2
         have RB := Lib.hid hb7
         clear x2 un2 gb2 hb7))
    by_cases h2 : 200 < l.length
    · have hp2 : pgErr p s l = 2 := by rw [HPG.out, if_pos h2]
      have he : E = 2 := by rw [← HE.out]; unfold pgE; rw [if_pos (by rw [hp2]; decide), hp2]
      subst he
      have hv2 : vfErr p s g l = 2 := by rw [HVF.out, if_pos h2]
      clear h2 hp2
      have HV2 := Lib.hid hv2
      clear hv2
      go_wp2
      go_ret
      exact ⟨by rw [HV2.out] <;> rfl, X1.out⟩
    · have hp2 : pgErr p s l = 0 := by rw [HPG.out, if_neg h2]
      have he : (progR p s 0 l).2.2 = E := by rw [← HE.out]; unfold pgE; rw [if_neg (by rw [hp2]; decide)]
      have ht : (progR p s 0 l).1 = T := by rw [← HT.out]; unfold pgS; rw [if_neg (by rw [hp2]; decide)]
      have hv2 : vfErr p s g l = if E = 0 ∧ fulD g T = true then 0 else 7 := by rw [HVF.out, if_neg h2, he, ht]
      have hne : E ≠ 2 := by rw [← he]; exact progR_ne2 p l s 0
      have htl : T.units.length = s.units.length := by rw [← ht]; exact progR_units p l s 0
      have f1 : (E == 2) = false := by simp [hne]
      have hfu := fun W (k : Ext w7 W) => HFUL.out T (.slice at_ T.units.length ct) (by rw [htl]; exact HGL.out) (by rw [htl]; exact HL.out) W (X1.out.tr k) (UN.out.ext k)
      obtain ⟨bb, hbb⟩ : ∃ b, fulD g T = b := ⟨_, rfl⟩
      rw [hbb] at hfu hv2
      clear h2 hp2 he ht hne htl
      have HV2 := Lib.hid hv2
      have HFU := Lib.hid hfu
      clear hv2 hfu
      by_cases h3 : E = 0
      · subst h3
        have hv3 := HV2.out
        clear HV2
        have HV2 := Lib.hid hv3
        clear hv3
        cases bb
        · go_wp2_with (
            go_at_call 39
            refine (HFU.out _ (Below.refl _ _)).mono ?_
            rintro e w8 ⟨rfl, hx⟩
            have x2 := X1.out.tr hx
            clear X1 hx c3 c4 HFU
            have X1 := Lib.hid x2
            clear x2)
          go_ret
          exact ⟨by rw [HV2.out] <;> rfl, X1.out⟩
        · go_wp2_with (
            go_at_call 39
            refine (HFU.out _ (Below.refl _ _)).mono ?_
            rintro e w8 ⟨rfl, hx⟩
            have x2 := X1.out.tr hx
            clear X1 hx c3 c4 HFU
            have X1 := Lib.hid x2
            clear x2)
          go_ret
          exact ⟨by rw [HV2.out] <;> rfl, X1.out⟩
      · have f2 : (E != 0) = true := by simp [h3]
        have hv3 : vfErr p s g l = 7 := by rw [HV2.out, if_neg (fun h => h3 h.1)]
        clear h3 HV2
        have HV2 := Lib.hid hv3
        clear hv3
        go_wp2
        go_ret
        exact ⟨by rw [HV2.out] <;> rfl, X1.out⟩
  · have f1 : (e1 != 0) = true := by simp [h1]
    have hf1 : vfErr p s g l = e1 := by unfold vfErr; rw [HE1.out, if_pos h1]
    clear h1
    have HF1 := Lib.hid hf1
    clear hf1
    go_wp2
    go_ret
    exact ⟨by rw [HF1.out] <;> rfl, X1.out⟩
end Go.Proofs.YtojobdffnnibaaaGreat
