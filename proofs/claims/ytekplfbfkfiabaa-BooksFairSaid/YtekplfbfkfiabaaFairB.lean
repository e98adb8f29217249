/- BooksFair returns true. -/
import Derived.Test.YtekplfbfkfiabaaPlainFa
import Derived.Test.YtekplfbfkfiabaaBkAwake
import Derived.Deep.CutRange
namespace Go.Proofs.Ytekplfbfkfiabaa
open Go.RowKit Go.Shelf
set_option linter.unusedVariables false
set_option linter.unusedSimpArgs false

def wtF (ns : List Int) : List Int := ns.map fun x => pick x 1000001
theorem wtF_len (ns : List Int) : (wtF ns).length = ns.length := by simp [wtF]
theorem wtF_all (ns : List Int) : ∀ u ∈ wtF ns, 0 ≤ u ∧ u ≤ 1000000 := fun u hu => by
  unfold wtF at hu
  obtain ⟨x, _, rfl⟩ := List.mem_map.1 hu
  have := pick_pos x 1000001 (by omega)
  omega
theorem wtF_take (ns : List Int) (i : Nat) (hi : i < ns.length) : wtF (ns.take (i + 1)) = wtF (ns.take i) ++ [pick ns[i] 1000001] := by
  unfold wtF; rw [List.take_succ_eq_append_getElem hi, List.map_append]; rfl
theorem isum_all : ∀ xs : List Int, (∀ u ∈ xs, 0 ≤ u ∧ u ≤ 1000000) → 0 ≤ isum xs ∧ isum xs ≤ 1000000 * xs.length
  | [], _ => by simp [isum]
  | x :: xs, h => by
    have h1 := isum_all xs (fun u hu => h u (by simp [hu]))
    have h2 := h x (by simp)
    simp only [isum, List.length_cons]
    omega
theorem shareE_wt (t : Int) (ws : List Int) (h1 : 1 ≤ ws.length ∧ ws.length ≤ 100) (h2 : 0 ≤ t ∧ t ≤ 1000000000000) (h3 : ∀ u ∈ ws, 0 ≤ u ∧ u ≤ 1000000) : shareE t ws = if isum ws = 0 then 4 else 0 := by
  have hb : badW ws = false := by
    unfold badW
    rw [List.any_eq_false]
    intro u hu
    have := (nIn_iff u 0 1000000).2 (h3 u hu)
    simp [this]
  unfold shareE
  rw [if_neg (fun h => h h1), if_neg (fun h => h h2), if_neg (by rw [hb]; decide), sumW_all ws hb]
set_option maxRecDepth 100000 in
set_option maxHeartbeats 4000000 in
theorem fair_true (t0 : Int) (ns : List Int) (va : Value) (w : World) (ha : Ints w va ns) (ht : I64 t0) (hns : ∀ x ∈ ns, I64 x) :
    Calls Try.prog 4 #[.int .i64 t0, va] w fun e w' => e = .returned (.bool true) ∧ Ext w w' := by
  have hp : ∀ e w', e = Ending.returned (.bool true) ∧ Ext w w' → e = Ending.returned (.bool true) ∧ Ext w w' := fun _ _ h => h
  have hal := ha.len
  obtain ⟨aa, ca, rfl, HA⟩ := ha.form
  clear ha
  have HP := Lib.hid hp
  clear hp
  by_cases q1 : 1 ≤ ns.length ∧ ns.length ≤ 60
  · obtain ⟨q1a, q1b⟩ := q1
    have hpk := fun W => pick_any t0 1000000000001 W ht (by unfold I64; omega)
    have hpr := pick_pos t0 1000000000001 (by omega)
    obtain ⟨t, htt⟩ : ∃ p, p = pick t0 1000000000001 := ⟨_, rfl⟩
    rw [← htt] at hpk hpr
    obtain ⟨ht1, ht2⟩ := hpr
    have ht3 : t ≤ 1000000000000 := by omega
    have i1 : ¬ ((ns.length : Int) < 1) := by omega
    have i2 : (ns.length : Int) ≤ 60 := by omega
    have HPK := Lib.hid hpk
    have HNS := Lib.hid hns
    clear hpk hns
    clear htt
    go_enter Try.func4, Try.ntmps4
    go_upto_region 7 with (
      go_at_call 24
      refine (HPK.out _).mono ?_
      rintro e w5 ⟨rfl, rfl⟩)
    clear HPK
    go_loopw [5, 6, 7] (fun v s t wr => ∃ i : Nat, i ≤ ns.length ∧ t = .int .i64 i ∧ s = .int .i64 (isum (wtF (ns.take i))) ∧ Hid (wr.ownsRow w.heap.size 3 1 v i ((wtF (ns.take i)).map (.int .i64))) ∧ Hid (Ext w wr)) (fun _ _ t _ => ns.length - (intOf t).toNat)
    case atStart => exact ⟨0, Nat.zero_le _, rfl, rfl, World.ownsRow_nil _ _ _ _, Below.refl _ _⟩
    case round =>
      obtain ⟨i, hi, rfl, rfl, HV, X⟩ := hrel
      obtain ⟨av, cv, rfl⟩ := row_form HV.out
      have hsr := isum_all (wtF (ns.take i)) (wtF_all _)
      rw [wtF_len, List.length_take, Nat.min_eq_left hi] at hsr
      by_cases hlt : i < ns.length
      · --[
        as_aux_lemma =>
          obtain ⟨b, o, rfl, hc⟩ := HA.out.cells (by omega)
          have e0 := X.out.cellSome (hc i hlt)
          have htk := wtF_take ns i hlt
          have hpk := fun W => pick_any ns[i] 1000001 W (HNS.out _ (List.getElem_mem hlt)) (by unfold I64; omega)
          have hpr := pick_pos ns[i] 1000001 (by omega)
          obtain ⟨x, hx⟩ : ∃ x, x = ns[i] := ⟨_, rfl⟩
          rw [← hx] at e0 htk hpk hpr
          obtain ⟨u, hu⟩ : ∃ u, u = pick x 1000001 := ⟨_, rfl⟩
          rw [← hu] at htk hpk hpr
          have hsum : isum (wtF (ns.take (i + 1))) = isum (wtF (ns.take i)) + u := by rw [htk, isum_snoc]
          obtain ⟨ws, hws⟩ : ∃ ws, ws = wtF (ns.take i) := ⟨_, rfl⟩
          have hwl : ws.length = i := by rw [hws, wtF_len, List.length_take]; omega
          rw [← hws] at htk hsr HV hsum ⊢
          obtain ⟨sm, hsm⟩ : ∃ sm, sm = isum ws := ⟨_, rfl⟩
          rw [← hsm] at hsr hsum ⊢
          obtain ⟨u1, u2⟩ := hpr
          obtain ⟨s1, s2⟩ := hsr
          have j1 : (0:Int) ≤ (i:Int) := by omega
          have j2 : (i:Int) < (ns.length:Int) := by omega
          have HPK := Lib.hid hpk
          have HTK := Lib.hid htk
          have HSUM := Lib.hid hsum
          have HWL := Lib.hid hwl
          clear hpk htk hsum hwl
          clear hc hx hu hws hsm
          go_upto_region 10 with (first
            | (go_at_call 24
               refine (HPK.out _).mono ?_
               rintro e w6 ⟨rfl, rfl⟩)
            | (at_builtin
               refine wpList_app tInts rfl rfl rfl (owns_ext HV.out (ext_lit _ _ _)) rfl (Src.lit _ [.int .i64 u] 1 1 rfl 3 1) (by simp [Value.oneCell']) (by omega) (Nat.le_trans X.out.size (by simp)) ?_
               rintro v' w8 q1 q2 q3
               have hx8 := ext_grown (X.out.tr (ext_lit _ _ _)) (owns_ext HV.out (ext_lit _ _ _)) q2
               have hv8 : w8.ownsRow w.heap.size 3 1 v' (i + 1) ((wtF (ns.take (i + 1))).map (.int .i64)) := by rw [HTK.out, List.map_append]; exact q1
               clear HV X q1 q2 q3
               have HV := Lib.hid hv8
               have X := Lib.hid hx8
               clear hv8 hx8))
          clear e0
          obtain ⟨av2, cv2, rfl⟩ := row_form HV.out
          have hin : Ints w8 (.slice av2 (i + 1) cv2) (wtF (ns.take (i + 1))) := Sl.of_owns HV.out
          have hwl2 : (wtF (ns.take (i + 1))).length = i + 1 := by rw [HTK.out, List.length_append, HWL.out]; rfl
          obtain ⟨b2, o2, rfl, hc2⟩ := Ints.cells hin (by omega)
          have e1 := hc2 i (by omega)
          have hlast : (wtF (ns.take (i + 1)))[i]'(by omega) = u := by
            have h1 : (wtF (ns.take (i + 1)))[i]? = some u := by rw [HTK.out, List.getElem?_append_right (by rw [HWL.out]; exact Nat.le_refl _), HWL.out, Nat.sub_self]; rfl
            rw [List.getElem?_eq_getElem (by omega)] at h1
            exact Option.some.inj h1
          rw [hlast] at e1
          have j3 : (i:Int) < (i:Int) + 1 := by omega
          clear hc2 hlast hin hwl2
          go_wp2
          go_roundw
          case rel => exact ⟨i + 1, by omega, by go_num, by rw [HSUM.out], HV, X⟩
          case measure => simp [intOf]; omega
      · obtain rfl : i = ns.length := by omega
        clear hlt
        rw [List.take_length] at hsr HV ⊢
        obtain ⟨ws, hws⟩ : ∃ ws, ws = wtF ns := ⟨_, rfl⟩
        have hwa : ∀ u ∈ ws, 0 ≤ u ∧ u ≤ 1000000 := by rw [hws]; exact wtF_all ns
        have hwl : ws.length = ns.length := by rw [hws, wtF_len]
        rw [← hws] at hsr HV ⊢
        rw [← hwl] at HV hsr q1a q1b ⊢
        obtain ⟨n, hn⟩ : ∃ n, n = ws.length := ⟨_, rfl⟩
        have hin : Ints wr (.slice av n cv) ws := by rw [hn]; exact Sl.of_owns HV.out
        rw [← hn] at HV hsr q1a q1b ⊢
        have hshr := fun W (h : Ints W (.slice av n cv) ws) => share_any t ws (.slice av n cv) W h (by unfold I64; omega) (fun u hu => by have := hwa u hu; unfold I64; omega) (by omega)
        have hE := shareE_wt t ws (by omega) ⟨ht1, ht3⟩ hwa
        have HSV : Hid (isum ws ≠ 0 → shareV t ws = outS t ws (isum ws) ∧ Fair t ws (isum ws) (outS t ws (isum ws))) := fun h0 => by
          have hb : badW ws = false := by
            unfold badW
            rw [List.any_eq_false]
            intro u hu
            have := (nIn_iff u 0 1000000).2 (hwa u hu)
            simp [this]
          refine ⟨?_, outS_fair t ws (fun u hu => (hwa u hu).1) (by omega) ht1 (by omega)⟩
          unfold shareV
          rw [hE, if_neg h0, if_pos rfl, sumW_all ws hb]
        have HWA := Lib.hid hwa
        have HN := Lib.hid hn
        obtain ⟨S, hS⟩ : ∃ S, S = isum ws := ⟨_, rfl⟩
        rw [← hS] at hsr hE HSV ⊢
        have HS := Lib.hid hS
        obtain ⟨s1, s2⟩ := hsr
        have HSHR := Lib.hid hshr
        have HIN := Lib.hid hin
        clear hshr hin
        clear hws hwa hwl hn hS HA hal HNS i1 i2 hi
        by_cases h0 : S = 0
        · rw [if_pos h0] at hE
          have h0' : (S == 0) = true := by simp [h0]
          have HE := Lib.hid hE
          clear hE h0
          go_wp2_with (first
            | (go_at_call 16
               refine (HSHR.out _ HIN.out).mono ?_
               rintro e w6 ⟨v6, rfl, hx6, _⟩
               rw [HE.out]
               replace X := Lib.hid (X.out.ext hx6)
               clear hx6)
            | (go_at_call 14
               refine (awake_any _).mono ?_
               rintro e w7 ⟨rfl, hx7⟩
               replace X := Lib.hid (X.out.ext hx7)
               clear hx7))
          go_ret
          exact HP.out _ _ ⟨rfl, X.out⟩
        · rw [if_neg h0] at hE
          have h0' : (S == 0) = false := by simpa using h0
          have hS1 : 1 ≤ S := by omega
          obtain ⟨hsv, hfair⟩ := HSV.out h0
          have HE := Lib.hid hE
          obtain ⟨l, hl⟩ : ∃ l, l = outS t ws S := ⟨_, rfl⟩
          rw [← hl] at hsv hfair
          have hll : l.length = n := by rw [hfair.len, HN.out]
          have SV := Lib.hid hsv
          have FR := Lib.hid hfair
          have HLL := Lib.hid hll
          clear hsv hfair hll
          clear hE h0 HSV hl
          go_upto_region 12 with (
            go_at_call 16
            refine (HSHR.out _ HIN.out).mono ?_
            rintro e w6 ⟨v6, rfl, hx6, hi6⟩
            rw [HE.out]
            rw [SV.out] at hi6
            obtain ⟨a6, c6, rfl, LI⟩ := hi6.form
            replace X := Lib.hid (X.out.ext hx6)
            replace HIN := Lib.hid (HIN.out.ext hx6)
            clear hx6 hi6)
          rw [HLL.out]
          clear HV HSHR
          obtain ⟨b6, o6, rfl, hcl⟩ := Ints.cells LI.out (by have := HLL.out; omega)
          obtain ⟨b5, o5, rfl, hcw⟩ := Ints.cells HIN.out (by have := HN.out; omega)
          have CL : Hid (∀ i, i < n → w6.cell? ⟨b6, o6 + i, none⟩ = some (.int .i64 (gI l i))) := fun i h => by
            have h2 : i < l.length := by rw [HLL.out]; exact h
            rw [hcl i h2, gI_get h2]
          have CW : Hid (∀ i, i < n → w6.cell? ⟨b5, o5 + i, none⟩ = some (.int .i64 (gI ws i))) := fun i h => by
            have h2 : i < ws.length := by rw [← HN.out]; exact h
            rw [hcw i h2, gI_get h2]
          have hW : ∀ i, i < n → 0 ≤ gI ws i ∧ gI ws i ≤ 1000000 := fun i h => by
            have h2 : i < ws.length := by rw [← HN.out]; exact h
            rw [gI_get h2]; exact HWA.out _ (List.getElem_mem h2)
          have hL0 : ∀ x ∈ l, 0 ≤ x := fun x hx => by
            obtain ⟨i, hi, rfl⟩ := List.getElem_of_mem hx
            have h2 : i < ws.length := by rw [← HN.out, ← HLL.out]; exact hi
            have h3 := (FR.out.low i h2).1
            rw [gI_get hi] at h3
            have h4 := hW i (by rw [← HLL.out]; exact hi)
            have h5 := Int.ediv_nonneg (Int.mul_nonneg ht1 h4.1) (show 0 ≤ S by omega)
            omega
          have hLT : ∀ i, i < n → isum (l.take (i + 1)) = isum (l.take i) + gI l i ∧ 0 ≤ isum (l.take i) ∧ isum (l.take (i + 1)) ≤ t := fun i h => by
            have h2 : i < l.length := by rw [HLL.out]; exact h
            have h3 := FR.out.sum
            have h4 := isum_take_le l (i + 1) hL0
            rw [gI_get h2]
            exact ⟨isum_take l i h2, isum_nonneg _ (fun x hx => hL0 x (List.mem_of_mem_take hx)), by omega⟩
          have HW := Lib.hid hW
          have HLT := Lib.hid hLT
          clear hW hLT
          clear hcl hcw hL0 LI HIN
          go_upto_region 18 with (fail)
          go_loopw [10, 11] (fun s t' wr => ∃ i : Nat, i ≤ n ∧ t' = .int .i64 i ∧ s = .int .i64 (t - isum (l.take i)) ∧ Hid (Ext w6 wr)) (fun _ t' _ => n - (intOf t').toNat)
          case atStart => exact ⟨0, Nat.zero_le _, rfl, by simp [isum], Below.refl _ _⟩
          case round =>
            obtain ⟨i, hi, rfl, rfl, Y⟩ := hrel
            by_cases hlt : i < n
            · have hlt2 : i < ws.length := by rw [← HN.out]; exact hlt
              have e1 := Y.out.cellSome (CL.out i hlt)
              have e2 := Y.out.cellSome (CW.out i hlt)
              have hu := HW.out i hlt
              have hlow := FR.out.low i hlt2
              have hcut := FR.out.cut i hlt2
              have hpair := fun k h => FR.out.pair i k hlt2 h
              obtain ⟨hs1, hs2, hs3⟩ := HLT.out i hlt
              have CLI := Lib.hid (CL.out i hlt)
              have CWI := Lib.hid (CW.out i hlt)
              obtain ⟨u, hue⟩ : ∃ u, u = gI ws i := ⟨_, rfl⟩
              obtain ⟨li, hle⟩ : ∃ u, u = gI l i := ⟨_, rfl⟩
              rw [← hue] at e2 hu hlow hcut hpair CWI
              rw [← hle] at e1 hlow hcut hpair hs1 CLI
              obtain ⟨sI, hsI⟩ : ∃ u, u = isum (l.take i) := ⟨_, rfl⟩
              rw [← hsI] at hs1 hs2 ⊢
              obtain ⟨hu1, hu2⟩ := hu
              obtain ⟨p, hpe⟩ : ∃ p, p = t * u := ⟨_, rfl⟩
              rw [← hpe] at hlow hcut
              have hpb : 0 ≤ p ∧ p ≤ 1000000000000000000 := by
                rw [hpe]
                refine ⟨Int.mul_nonneg ht1 hu1, ?_⟩
                have := Int.mul_le_mul ht3 hu2 hu1 (by omega)
                simpa using this
              obtain ⟨hp1, hp2⟩ := hpb
              have wp : IntKind.i64.wrap (t * u) = p := by rw [← hpe]; exact i64_eq _ ⟨by omega, by omega⟩
              have hq0 : p.tdiv S = p / S := Int.tdiv_eq_ediv_of_nonneg hp1
              have hr0 : p.tmod S = p % S := Int.tmod_eq_emod_of_nonneg hp1
              have hqb : 0 ≤ p / S ∧ p / S ≤ p := ⟨Int.ediv_nonneg hp1 (by omega), Int.ediv_le_self S hp1⟩
              have hrb : 0 ≤ p % S ∧ p % S < S := ⟨Int.emod_nonneg p (by omega), Int.emod_lt_of_pos p (by omega)⟩
              obtain ⟨q, hqe⟩ : ∃ q, q = p / S := ⟨_, rfl⟩
              obtain ⟨r, hre⟩ : ∃ r, r = p % S := ⟨_, rfl⟩
              rw [← hqe] at hq0 hqb hlow hcut
              rw [← hre] at hr0 hrb hcut
              obtain ⟨hq1, hq2⟩ := hqb
              obtain ⟨hr1, hr2⟩ := hrb
              obtain ⟨hl1, hl2⟩ := hlow
              have j1 : (0:Int) ≤ (i:Int) := by omega
              have j2 : (i:Int) < (n:Int) := by omega
              have hS2 : S ≠ 0 := by omega
              have t1 : ¬ li < q := by omega
              have t2 : ¬ q + 1 < li := by omega
              have hsb : sI + li ≤ t := by omega
              have HS1 := Lib.hid (show isum (l.take (i + 1)) = sI + li by rw [hs1])
              have hli0 : 0 ≤ li := by omega
              have HCUT := Lib.hid hcut
              have HPAIR := Lib.hid hpair
              clear hcut hpair
              clear hue hle hsI hpe hqe hre hs1 hs3
              go_upto_region 21 with (fail)
              obtain ⟨w7, rfl⟩ : ∃ W, W = wr := ⟨wr, rfl⟩
              go_cut [133] from 73 to 133 (fun v W => v = .bool false ∧ Hid (Ext w6 W))
              case first =>
                as_aux_lemma =>
                  by_cases hg : q < li
                  · have hr : (r == 0) = false := by simpa using HCUT.out hg
                    go_quiet (fail)
                    go_wp2
                    go_meet
                    case rel => exact ⟨rfl, Lib.hid (Y.out.tr (Ext.of_drewN _ _))⟩
                  · go_quiet (fail)
                    go_wp2
                    go_meet
                    case rel => exact ⟨rfl, Lib.hid (Y.out.tr (Ext.of_drewN _ _))⟩
              case rest =>
              obtain ⟨rfl, Y2⟩ := hcut
              clear Y e1 e2 wp hq0 hr0 t1 t2 hp1 hp2 hq1 hq2 hr1 hr2 hl1 hl2 HCUT
              go_upto_region 24 with (fail)
              obtain ⟨w8, rfl⟩ : ∃ W, W = wc := ⟨wc, rfl⟩
              go_loopw [12] (fun s wr => ∃ k : Nat, k ≤ i ∧ s = .int .i64 k ∧ Hid (Ext w6 wr)) (fun s _ => i - (intOf s).toNat)
              case atStart => exact ⟨0, Nat.zero_le _, rfl, Y2⟩
              case round =>
                clear Y2
                obtain ⟨k, hk, rfl, Y⟩ := hrel
                by_cases hkl : k < i
                · have e1 := Y.out.cellSome CLI.out
                  have e2 := Y.out.cellSome CWI.out
                  have e3 := Y.out.cellSome (CL.out k (by omega))
                  have e4 := Y.out.cellSome (CW.out k (by omega))
                  obtain ⟨p1, p2, p3⟩ := HPAIR.out k hkl
                  obtain ⟨uk, huk⟩ : ∃ u, u = gI ws k := ⟨_, rfl⟩
                  obtain ⟨lk, hlk⟩ : ∃ u, u = gI l k := ⟨_, rfl⟩
                  rw [← huk] at e4 p1 p2 p3
                  rw [← hlk] at e3 p1 p2 p3
                  clear huk hlk
                  have j3 : (0:Int) ≤ (k:Int) := by omega
                  have j4 : (k:Int) < (n:Int) := by omega
                  go_upto_region 26 with (fail)
                  obtain ⟨w9, rfl⟩ : ∃ W, W = wr := ⟨wr, rfl⟩
                  go_cut [202] from 140 to 202 (fun v W => v = .bool false ∧ Hid (Ext w6 W))
                  case first =>
                    as_aux_lemma =>
                      rcases Int.lt_trichotomy uk u with h1 | h1 | h1
                      · have k1 : ¬ li < lk := fun h => p1 ⟨h1, h⟩
                        have k2 : (u == uk) = false := by simp; omega
                        have k3 : ¬ u < uk := by omega
                        clear p1 p2 p3
                        go_quiet (fail)
                        go_wp2
                        go_meet
                        case rel => exact ⟨rfl, Lib.hid (Y.out.tr (Ext.of_drewN _ _))⟩
                      · subst h1
                        have k1 : ¬ lk < li := fun h => p2 ⟨rfl, h⟩
                        clear p1 p2 p3
                        go_quiet (fail)
                        go_wp2
                        go_meet
                        case rel => exact ⟨rfl, Lib.hid (Y.out.tr (Ext.of_drewN _ _))⟩
                      · have k1 : ¬ lk < li := fun h => p3 ⟨h1, h⟩
                        have k2 : (u == uk) = false := by simp; omega
                        have k3 : ¬ uk < u := by omega
                        clear p1 p2 p3
                        go_quiet (fail)
                        go_wp2
                        go_meet
                        case rel => exact ⟨rfl, Lib.hid (Y.out.tr (Ext.of_drewN _ _))⟩
                  case rest =>
                  obtain ⟨rfl, Y2⟩ := hcut
                  clear e1 e2 e3 e4 Y p1 p2 p3
                  go_wp2
                  go_roundw
                  case rel => exact ⟨k + 1, by omega, by go_num, Y2⟩
                  case measure => simp [intOf]; omega
                · obtain rfl : k = i := by omega
                  clear hkl
                  go_wp2
                  go_roundw
                  case rel => exact ⟨k + 1, by omega, by go_num, by rw [HS1.out]; go_num, Y⟩
                  case measure => simp [intOf]; omega
            · obtain rfl : i = n := by omega
              have hlz : t - isum (l.take i) = 0 := by rw [List.take_of_length_le (by rw [HLL.out]; exact Nat.le_refl _)]; exact FR.out.sum
              rw [hlz]
              clear hlt hlz
              go_wp2_with (
                go_at_call 14
                refine (awake_any _).mono ?_
                rintro e w7 ⟨rfl, hx7⟩
                replace Y := Lib.hid (Y.out.ext hx7)
                clear hx7)
              go_ret
              exact HP.out _ _ ⟨rfl, X.out.tr Y.out⟩
  · have i1 : (ns.length : Int) < 1 ∨ (60:Int) < (ns.length : Int) := by omega
    clear q1
    rcases i1 with i1 | i1
    · go_enter Try.func4, Try.ntmps4
      go_wp2_with (go_at_call 14; refine (awake_any _).mono ?_; rintro e w6 ⟨rfl, hx6⟩)
      go_ret
      exact HP.out _ _ ⟨rfl, hx6⟩
    · have i2 : ¬ ((ns.length : Int) < 1) := by omega
      go_enter Try.func4, Try.ntmps4
      go_wp2_with (go_at_call 14; refine (awake_any _).mono ?_; rintro e w6 ⟨rfl, hx6⟩)
      go_ret
      exact HP.out _ _ ⟨rfl, hx6⟩
end Go.Proofs.Ytekplfbfkfiabaa
