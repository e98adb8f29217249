import Derived.Test.YtojobdffnnibaaaPressPl
import Derived.Test.YtojobdffnnibaaaActsA
import Derived.Test.YtojobdffnnibaaaPSit
import Derived.Test.YtojobdffnnibaaaPBreak
import Derived.Test.YtojobdffnnibaaaActsC
/- PressActs: the code of a situation. -/
namespace Go.Proofs.Ytojobdffnnibaaa
open Go.RowKit
set_option linter.unusedVariables false
set_option linter.unusedSimpArgs false

set_option maxRecDepth 100000 in
set_option maxHeartbeats 4000000 in
theorem sitCode_any (l : List Bool) (hl : l.length = 15) (w : World) :
    Calls Try.prog 58 #[.agg (l.map Value.bool).toArray] w fun e w' => e = .returned (.int .i64 ((if l.getD 0 false then 1 else if l.getD 1 false then 2 else 0) + 3 * (bitsN (l.drop 2) : Nat))) ∧ Ext w w' := by
  have hat : ∀ i, i < 15 → ((l.map Value.bool).toArray)[i]? = some (.bool (l.getD i false)) := fun i hi => by
    simp [List.getD_eq_getElem?_getD, hl, hi]
  have hstep : ∀ i, i < 15 → bitsN (l.drop i) = (l.getD i false).toNat + 2 * bitsN (l.drop (i + 1)) := fun i hi => by
    rw [bitsN_drop l i (by omega), List.getD_eq_getElem?_getD, List.getElem?_eq_getElem (by omega)]; rfl
  have hbd : ∀ i, 1 ≤ i → bitsN (l.drop i) < 32768 := fun i hi => by
    have h := bitsN_lt (l.drop i)
    have h2 : 2 ^ (l.drop i).length ≤ 2 ^ 15 := Nat.pow_le_pow_right (by omega) (by rw [List.length_drop]; omega)
    omega
  have h15 : bitsN (l.drop 15) = 0 := by rw [List.drop_eq_nil_of_le (by omega)]; rfl
  obtain ⟨F, hF⟩ : ∃ F : Nat → Bool, F = fun i => l.getD i false := ⟨_, rfl⟩
  obtain ⟨G, hG⟩ : ∃ G : Nat → Nat, G = fun i => bitsN (l.drop i) := ⟨_, rfl⟩
  have hat' : ∀ i, i < 15 → ((l.map Value.bool).toArray)[i]? = some (.bool (F i)) := by rw [hF]; exact hat
  have hstep' : ∀ i, i < 15 → G i = (F i).toNat + 2 * G (i + 1) := by rw [hF, hG]; exact hstep
  have hbd' : ∀ i, 1 ≤ i → G i < 32768 := by rw [hG]; exact hbd
  have h15' : G 15 = 0 := by rw [hG]; exact h15
  have e0 : l.getD 0 false = F 0 := by rw [hF]
  have e1 : l.getD 1 false = F 1 := by rw [hF]
  have e2 : bitsN (l.drop 2) = G 2 := by rw [hG]
  rw [e0, e1, e2]
  obtain ⟨R, hR⟩ : ∃ R : Int, (if F 0 then 1 else if F 1 then 2 else 0) + 3 * (G 2 : Int) = R := ⟨_, rfl⟩
  rw [hR]
  have HR := Lib.hid hR
  clear hR
  obtain ⟨b0, b1, b2, b3, b4, b5, b6, b7, b8, b9, b10, b11, b12, b13, b14, hl15⟩ := list15 l hl
  subst hl15
  have hcs : (([b0, b1, b2, b3, b4, b5, b6, b7, b8, b9, b10, b11, b12, b13, b14] : List Bool).map Value.bool).toArray = #[.bool b0, .bool b1, .bool b2, .bool b3, .bool b4, .bool b5, .bool b6, .bool b7, .bool b8, .bool b9, .bool b10, .bool b11, .bool b12, .bool b13, .bool b14] := rfl
  rw [hcs] at hat' ⊢
  have HAT := Lib.hid hat'
  have HST := Lib.hid hstep'
  have HBD := Lib.hid hbd'
  have H15 := Lib.hid h15'
  clear hat' hstep' hbd' h15'
  clear hat hstep hbd h15 hF hG e0 e1 e2 hcs hl
  go_enter Try.func58, Try.ntmps58
  go_upto_region 3 with (
    with_reducible refine wpList_boxA (t := 124) (cs := #[.bool b0, .bool b1, .bool b2, .bool b3, .bool b4, .bool b5, .bool b6, .bool b7, .bool b8, .bool b9, .bool b10, .bool b11, .bool b12, .bool b13, .bool b14]) rfl rfl rfl ?_
    rintro xb w1 hx1 hx2 hx3
    have XB := Lib.hid hx1
    have X1 := Lib.hid hx2
    clear hx1 hx2
    clear hx3)
  go_loopw [4, 3] (fun t4 t3 wr => ∃ i : Nat, 1 ≤ i ∧ i ≤ 14 ∧ t4 = .int .i64 i ∧ t3 = .int .i64 (G (i + 1)) ∧ Hid (Ext w1 wr)) (fun t4 _ _ => (intOf t4).toNat)
  case atStart => exact ⟨14, by omega, by omega, rfl, by rw [H15.out]; rfl, Below.refl _ _⟩
  case round =>
    obtain ⟨i, hi1, hi2, rfl, rfl, HX⟩ := hrel
    have hg := HBD.out (i + 1) (by omega)
    by_cases hlt : 1 < i
    · have i1 : (1:Int) < (i:Int) := by omega
      obtain ⟨j, rfl⟩ : ∃ j, i = j + 1 := ⟨i - 1, by omega⟩
      have d := ((XB.out.ext HX.out).cell (j + 1)).trans (HAT.out (j + 1) (by omega))
      have hs := HST.out (j + 1) (by omega)
      obtain ⟨f, hf⟩ : ∃ f, F (j + 1) = f := ⟨_, rfl⟩
      obtain ⟨c, hc⟩ : ∃ c, G (j + 1 + 1) = c := ⟨_, rfl⟩
      rw [hf] at d hs
      rw [hc] at hs hg ⊢
      have i2 : (0:Int) ≤ ((j + 1 : Nat):Int) := by omega
      have i3 : ((j + 1 : Nat):Int) < 15 := by omega
      have HS := Lib.hid hs
      clear hs
      clear hf hc
      cases f
      · go_wp2
        go_roundw
        case rel => exact ⟨j, by omega, by omega, by go_num, by have := HS.out; simp at this; first | go_num | (congr 1; omega), HX⟩
        case measure => first | (simp [intOf]; done) | (simp [intOf]; omega)
      · go_wp2
        go_roundw
        case rel => exact ⟨j, by omega, by omega, by go_num, by have := HS.out; simp at this; first | go_num | (congr 1; omega), HX⟩
        case measure => first | (simp [intOf]; done) | (simp [intOf]; omega)
    · have i1 : decide ((1:Int) < (i:Int)) = false := decide_eq_false (by omega)
      obtain rfl : i = 1 := by omega
      have d0 := ((XB.out.ext HX.out).cell 0).trans (HAT.out 0 (by omega))
      have d1 := ((XB.out.ext HX.out).cell 1).trans (HAT.out 1 (by omega))
      obtain ⟨f0, hf0⟩ : ∃ f, F 0 = f := ⟨_, rfl⟩
      obtain ⟨f1, hf1⟩ : ∃ f, F 1 = f := ⟨_, rfl⟩
      obtain ⟨c, hc⟩ : ∃ c, G 2 = c := ⟨_, rfl⟩
      have hg2 : c < 32768 := by rw [← hc]; exact hg
      rw [hf0] at d0
      rw [hf1] at d1
      try rw [hc]
      clear hg
      have xw := X1.out.tr HX.out
      have XW := Lib.hid xw
      have HF0 := Lib.hid hf0
      have HF1 := Lib.hid hf1
      have HC := Lib.hid hc
      clear xw hf0 hf1 hc
      cases f0
      · cases f1
        · go_wp2
          go_ret
          exact ⟨ret_int (by rw [← HR.out, HF0.out, HF1.out, HC.out]; simp), XW.out⟩
        · go_wp2
          go_ret
          exact ⟨ret_int (by rw [← HR.out, HF0.out, HF1.out, HC.out]; simp), XW.out⟩
      · go_wp2
        go_ret
        exact ⟨ret_int (by rw [← HR.out, HF0.out, HF1.out, HC.out]; simp), XW.out⟩
end Go.Proofs.Ytojobdffnnibaaa

/- PressActs: the press's Code. -/
namespace Go.Proofs.Ytojobdffnnibaaa
open Go.RowKit
set_option linter.unusedVariables false
set_option linter.unusedSimpArgs false

/-- The code that Code answers. -/
def coD (p : PressD) (s : StD) : Int := if stErr p s = 0 then codeD s else 0
theorem sit_code {s : StD} (hd : 0 ≤ s.drive ∧ s.drive ≤ 2) (hl : s.units.length ≤ 3) : ((if (sitD s).getD 0 false then 1 else if (sitD s).getD 1 false then 2 else 0) + 3 * (bitsN ((sitD s).drop 2) : Nat) : Int) = codeD s := by
  have hE := sitK_end s hl
  have h0 : sitD s = (s.drive == 1) :: (s.drive == 2) :: ((s.folder :: unitsB s.units) ++ List.replicate (12 - 4 * s.units.length) false) := by
    rw [← hE]; unfold sitK; rw [List.take_length]; rfl
  rw [h0]
  have hd2 : s.drive = 0 ∨ s.drive = 1 ∨ s.drive = 2 := by omega
  unfold codeD
  rw [show ((s.drive == 1) :: (s.drive == 2) :: ((s.folder :: unitsB s.units) ++ List.replicate (12 - 4 * s.units.length) false)).drop 2 = (s.folder :: unitsB s.units) ++ List.replicate (12 - 4 * s.units.length) false from rfl, bitsN_append, bitsN_false, Nat.mul_zero, Nat.add_zero]
  rcases hd2 with h | h | h <;> rw [h] <;> simp

set_option maxRecDepth 100000 in
set_option maxHeartbeats 4000000 in
theorem code_any (p : PressD) (s : StD) (vj vu : Value) (w : World) (hj : Truths w vj p.jam) (hu : UnIn w vu s.units) (hl : s.units.length ≤ 1000000) :
    Calls Try.prog 31 #[pV vj p, sV vu s] w fun e w' => e = .returned (.tuple #[.int .i64 (coD p s), .int .i64 (stErr p s)]) ∧ Ext w w' := by
  have hst := fun w1 (k : Ext w w1) => start_any p s vj vu w1 (Sl.ext hj k) (hu.ext k) hl
  obtain ⟨a, c, rfl, Hu⟩ := hu.form
  obtain ⟨_, aj, cj, hvj, _⟩ := id hj
  rw [List.length_map] at hvj
  subst hvj
  clear hu hl Hu
  unfold pV sV at *
  obtain ⟨e1, he1⟩ : ∃ e, stErr p s = e := ⟨_, rfl⟩
  obtain ⟨R, hR⟩ : ∃ R, coD p s = R := ⟨_, rfl⟩
  rw [he1, hR]
  have HST := Lib.hid hst
  have HE1 := Lib.hid he1
  have HR := Lib.hid hR
  clear hst he1 hR
  go_enter Try.func31, Try.ntmps31
  go_upto_region 1 with (first
    | (with_reducible refine wpList_boxA (t := 32) (cs := #[.slice aj p.jam.length cj, .int .i64 p.warm, .int .i64 p.tail, .int .i64 p.dirt]) rfl rfl rfl ?_
       rintro xb w1 hx1 hx2 hx3
       have PB := Lib.hid hx1
       have X1 := Lib.hid hx2
       clear hx1 hx2
       clear hx3)
    | (with_reducible refine wpList_boxA (t := 36) (cs := #[.int .i64 s.drive, .bool s.folder, .slice a s.units.length c, .int .i64 s.fresh]) rfl rfl rfl ?_
       rintro sb w2 hy1 hy2 hy3
       have c2 := (PB.out.ext hy2).cell
       have c3 := hy1.cell
       have x2 := X1.out.tr hy2
       clear PB X1
       have X1 := Lib.hid x2
       clear x2
       clear hy3 hy2 hy1))
  by_cases h1 : e1 = 0
  · subst h1
    have hs := fun w1 (k : Ext w w1) => (HST.out w1 k).mono fun e w' (h : StartPost w1 p s _ e w') => (h.resolve_left fun h => h.1 HE1.out).2
    obtain ⟨hpe, hsh, hsf⟩ := stErr_ok HE1.out
    have hul : s.units.length ≤ 3 := by rw [shaped_len hsh]; exact (pErr_len hpe).2
    have hsc := sit_code (shaped_nums hsh).1 hul
    have hr2 : R = codeD s := by rw [← HR.out]; unfold coD; rw [if_pos HE1.out]
    rw [← hr2] at hsc
    have hco := fun W => sitCode_any (sitD s) (sitD_len s) W
    rw [hsc] at hco
    have HS := Lib.hid hs
    have HUL := Lib.hid hul
    have HCO := Lib.hid hco
    clear hs hul hco
    clear hsc hr2 hpe hsh hsf HST
    go_wp2_with (first
      | (go_at_call 43
         refine (HS.out _ X1.out).mono ?_
         rintro e w3 ⟨mb, pb, ub, c4, rfl, hmo, hx⟩
         have x2 := X1.out.tr hx
         clear X1 hx HS c2 c3
         have X1 := Lib.hid x2
         have HM := Lib.hid hmo
         clear x2 hmo)
      | (go_at_call 57
         refine (situation_any _ HM.out HUL.out).mono ?_
         rintro e w4 ⟨rfl, hx⟩
         have x2 := X1.out.tr hx
         clear X1 hx HM
         have X1 := Lib.hid x2
         clear x2)
      | (go_at_call 58
         refine (HCO.out _).mono ?_
         rintro e w5 ⟨rfl, hx⟩
         have x2 := X1.out.tr hx
         clear X1 hx
         have X1 := Lib.hid x2
         clear x2))
    go_ret2
    exact ⟨rfl, X1.out⟩
  · have hs := fun w1 (k : Ext w w1) => (HST.out w1 k).mono fun e w' (h : StartPost w1 p s _ e w') => (h.resolve_right fun h => h1 (HE1.out.symm.trans h.1)).2
    rw [HE1.out] at hs
    have f1 : (e1 != 0) = true := by simp [h1]
    have hr2 : R = 0 := by rw [← HR.out]; unfold coD; rw [if_neg (by rw [HE1.out]; exact h1)]
    have HS := Lib.hid hs
    have HR2 := Lib.hid hr2
    clear hs hr2
    clear HST
    go_wp2_with (
      go_at_call 43
      refine (HS.out _ X1.out).mono ?_
      rintro e w3 ⟨rfl, hx⟩
      have x2 := X1.out.tr hx
      clear X1 hx HS c2 c3
      have X1 := Lib.hid x2
      clear x2)
    go_ret2
    exact ⟨by rw [HR2.out] <;> rfl, X1.out⟩
end Go.Proofs.Ytojobdffnnibaaa

/- PressActs: the reference's code of a state. -/
namespace Go.Proofs.Ytojobdffnnibaaa
open Go.RowKit
set_option linter.unusedVariables false
set_option linter.unusedSimpArgs false

set_option maxRecDepth 100000 in
set_option maxHeartbeats 4000000 in
theorem rCode0_any (s : StD) (vu : Value) (w : World) (hu : UnIn w vu s.units) (hl : s.units.length ≤ 3) (hd : 0 ≤ s.drive ∧ s.drive ≤ 2) :
    Calls Try.prog 59 #[sV vu s] w fun e w' => e = .returned (.int .i64 (codeD s)) ∧ Ext w w' := by
  obtain ⟨a, c, rfl, Hu⟩ := hu.form
  clear hu
  have hce := codeD_eq s
  obtain ⟨R, hR⟩ : ∃ R, codeD s = R := ⟨_, rfl⟩
  rw [hR] at hce ⊢
  unfold sV
  have HCE := Lib.hid hce
  have HL := Lib.hid hl
  have HD := Lib.hid hd
  clear hce hl hd
  clear hR
  go_enter Try.func59, Try.ntmps59
  go_upto_region 3 with (
    with_reducible refine wpList_boxA (t := 27) (cs := #[.int .i64 s.drive, .bool s.folder, .slice a s.units.length c, .int .i64 s.fresh]) rfl rfl rfl ?_
    rintro sb w1 hx1 hx2 hx3
    have SB := Lib.hid hx1
    have X1 := Lib.hid hx2
    clear hx1 hx2
    clear hx3)
  go_loopw [5, 3, 4] (fun t5 t3 t4 wr => ∃ k : Nat, k ≤ s.units.length ∧ t5 = .int .i64 k ∧ t3 = .int .i64 (cN s.units k : Nat) ∧ t4 = .int .i64 (16 ^ k : Nat) ∧ Hid (Ext w1 wr)) (fun t5 _ _ _ => s.units.length - (intOf t5).toNat)
  case atStart => exact ⟨0, by omega, rfl, rfl, rfl, Below.refl _ _⟩
  case round =>
    obtain ⟨k, hk, rfl, rfl, rfl, HX⟩ := hrel
    have hkb : k ≤ 3 := Nat.le_trans hk HL.out
    have d := (SB.out.ext HX.out).cell
    by_cases hlt : k < s.units.length
    · obtain ⟨b, o, rfl, hc⟩ := UnIn.cells (Hu.out.ext (X1.out.tr HX.out)) (by omega)
      obtain ⟨d0, d1, d2, d3, d4⟩ := hc k hlt
      have hs := cN_succ s.units k hlt
      have hcl := cN_lt s.units k (by omega)
      obtain ⟨u, hu⟩ : ∃ u, s.units[k] = u := ⟨_, rfl⟩
      rw [hu] at d0 d1 d2 d3 d4 hs
      obtain ⟨uo, ut, uc, up, ui⟩ := u
      dsimp only at *
      obtain ⟨o0, ho0⟩ : ∃ n, 16 ^ k = n := ⟨_, rfl⟩
      obtain ⟨c0, hc0⟩ : ∃ n, cN s.units k = n := ⟨_, rfl⟩
      have ho1 : o0 ≤ 256 := by
        have h3 := HL.out
        have : k ≤ 2 := by omega
        rw [← ho0]; exact Nat.le_trans (Nat.pow_le_pow_right (by omega) this) (by decide)
      rw [ho0] at hs hcl ⊢
      rw [hc0] at hs hcl ⊢
      have hpw : 16 ^ (k + 1) = o0 * 16 := by rw [Nat.pow_succ, ho0]
      have i1 : (0:Int) ≤ (k:Int) := by omega
      have i2 : (k:Int) < (s.units.length:Int) := by omega
      have HS := Lib.hid hs
      have HPW := Lib.hid hpw
      clear hs hpw
      clear hu hc ho0 hc0
      go_upto_region 7 with (fail)
      obtain ⟨wu, hwu⟩ : ∃ W, wr.alloc (.cells #[.bool uo, .bool ut, .bool uc, .bool up, .int .i64 ui] 98) = W := ⟨_, rfl⟩
      have hx1 : Ext wr wu := by rw [← hwu]; exact (newB wr _ _).2.1
      have hsz : wr.heap.size + 1 = wu.heap.size := by rw [← hwu]; simp only [World.alloc, Array.size_push]
      rw [hwu, hsz]
      have hnb := newB wu #[.bool uo, .bool ut, .bool uc, .bool up] 4
      have lbk : Blk (wu.alloc (.cells #[.bool uo, .bool ut, .bool uc, .bool up] 4)) wu.heap.size #[.bool uo, .bool ut, .bool uc, .bool up] 4 := hnb.1
      have hx2 := HX.out.tr (hx1.tr hnb.2.1)
      clear hnb d d0 d1 d2 d3 d4 hx1 hwu hsz
      generalize wu.alloc (.cells #[.bool uo, .bool ut, .bool uc, .bool up] 4) = wl at *
      obtain ⟨lb, hlb⟩ : ∃ n, wu.heap.size = n := ⟨_, rfl⟩
      rw [hlb] at lbk ⊢
      clear hlb
      have LB := Lib.hid lbk
      have XL := Lib.hid hx2
      clear lbk hx2
      go_upto_region 8 with (fail)
      go_loopw [8, 3, 4] (fun t8 t3 t4 wq => ∃ q cc oo : Nat, q ≤ 4 ∧ t8 = .int .i64 q ∧ t3 = .int .i64 cc ∧ t4 = .int .i64 oo ∧ Hid (cc = c0 + o0 * bitsN ([uo, ut, uc, up].take q)) ∧ Hid (oo = o0 * 2 ^ q) ∧ Hid (Ext wl wq)) (fun t8 _ _ _ => 4 - (intOf t8).toNat)
      case atStart => exact ⟨0, c0, o0, by omega, rfl, rfl, rfl, (by show c0 = c0 + o0 * 0; omega), (by show o0 = o0 * 1; omega), Below.refl _ _⟩
      case round =>
        obtain ⟨q, cc, oo, hq, rfl, rfl, rfl, HCC, HOO, HY⟩ := hrel
        have dl := (LB.out.ext HY.out).cell
        by_cases hlq : q < 4
        · have hst := bitsN_take [uo, ut, uc, up] q hlq
          have hb1 := bitsN_lt ([uo, ut, uc, up].take q)
          have hat : (#[Value.bool uo, .bool ut, .bool uc, .bool up] : Array Value)[q]? = some (.bool [uo, ut, uc, up][q]) := by
            have : q = 0 ∨ q = 1 ∨ q = 2 ∨ q = 3 := by omega
            rcases this with rfl | rfl | rfl | rfl <;> rfl
          have dq := (dl q).trans hat
          obtain ⟨f, hf⟩ : ∃ f, [uo, ut, uc, up][q] = f := ⟨_, rfl⟩
          rw [hf] at dq hst
          have hp : 2 ^ q ≤ 8 := Nat.le_trans (Nat.pow_le_pow_right (by omega) (show q ≤ 3 by omega)) (by decide)
          have hoo := HOO.out
          have hoob : oo ≤ 256 * 8 := by rw [hoo]; exact Nat.mul_le_mul ho1 hp
          have hcc := HCC.out
          have hb2 : bitsN ([uo, ut, uc, up].take q) ≤ 8 := by
            have h5 : 2 ^ ([uo, ut, uc, up].take q).length ≤ 8 := Nat.le_trans (Nat.pow_le_pow_right (by omega) (show ([uo, ut, uc, up].take q).length ≤ 3 by rw [List.length_take]; omega)) (by decide)
            omega
          have hccb : cc ≤ 256 + 256 * 8 := by rw [hcc]; exact Nat.add_le_add (by omega) (Nat.mul_le_mul ho1 hb2)
          have hn1 : o0 * 2 ^ (q + 1) = oo + oo := by rw [hoo, Nat.pow_succ]; rw [← Nat.mul_assoc]; omega
          have hn2 : c0 + o0 * bitsN ([uo, ut, uc, up].take (q + 1)) = cc + oo * f.toNat := by rw [hst, hcc, hoo, Nat.mul_add, Nat.mul_assoc, Nat.add_assoc]
          have i3 : (0:Int) ≤ (q:Int) := by omega
          have i4 : (q:Int) < 4 := by omega
          clear dl hst hb1 hat hf hp hoo hcc hb2
          have HN1 := Lib.hid hn1
          have HN2 := Lib.hid hn2
          clear hn1 hn2
          cases f
          · go_wp2
            go_roundw
            case rel => exact ⟨q + 1, cc, oo + oo, by omega, by go_num, rfl, by go_num, (by have h := HN2.out; simp only [Bool.toNat_false, Bool.toNat_true, Nat.mul_zero, Nat.add_zero, Nat.mul_one] at h; exact h.symm), HN1.out.symm, HY⟩
            case measure => first | (simp [intOf]; done) | (simp [intOf]; omega)
          · go_wp2
            go_roundw
            case rel => exact ⟨q + 1, cc + oo, oo + oo, by omega, by go_num, by go_num, by go_num, (by have h := HN2.out; simp only [Bool.toNat_false, Bool.toNat_true, Nat.mul_zero, Nat.add_zero, Nat.mul_one] at h; exact h.symm), HN1.out.symm, HY⟩
            case measure => first | (simp [intOf]; done) | (simp [intOf]; omega)
        · have i4 : decide ((q:Int) < 4) = false := decide_eq_false (by omega)
          obtain rfl : q = 4 := by omega
          have hcc := HCC.out
          have hoo := HOO.out
          have hb4 : bitsN ([uo, ut, uc, up].take 4) = uo.toNat + 2 * ut.toNat + 4 * uc.toNat + 8 * up.toNat := by
            simp only [List.take_succ_cons, List.take_zero, bitsN]; omega
          have hc5 : cN s.units (k + 1) = cc := by rw [HS.out, hcc, hb4]
          have ho5 : 16 ^ (k + 1) = oo := by rw [HPW.out, hoo]
          have xf := XL.out.tr HY.out
          clear dl hcc hoo hb4
          have HC5 := Lib.hid hc5
          have HO5 := Lib.hid ho5
          have XF := Lib.hid xf
          clear hc5 ho5 xf
          go_wp2
          go_roundw
          case rel => exact ⟨k + 1, by omega, by go_num, by rw [HC5.out], by rw [HO5.out], XF⟩
          case measure => first | (simp [intOf]; done) | (simp [intOf]; omega)
    · have i2 : decide ((k:Int) < (s.units.length:Int)) = false := decide_eq_false (by omega)
      obtain rfl : k = s.units.length := by omega
      have hcl := cN_lt s.units s.units.length (by omega)
      have h4 : (16:Nat) ^ s.units.length ≤ 4096 := Nat.le_trans (Nat.pow_le_pow_right (by omega) HL.out) (by decide)
      obtain ⟨c0, hc0⟩ : ∃ n, cN s.units s.units.length = n := ⟨_, rfl⟩
      have hc1 : c0 < 4096 := by omega
      have hce := HCE.out
      rw [hc0] at hce ⊢
      have hdr := HD.out
      obtain ⟨fo, hfo⟩ : ∃ f, s.folder = f := ⟨_, rfl⟩
      obtain ⟨dr, hdr2⟩ : ∃ f, s.drive = f := ⟨_, rfl⟩
      rw [hfo, hdr2] at d hce
      rw [hdr2] at hdr
      have xw := X1.out.tr HX.out
      have HCF := Lib.hid hce
      have XW := Lib.hid xw
      clear hce xw
      clear hc0 hcl h4 hfo hdr2 HCE
      cases fo
      · go_wp2
        go_ret
        exact ⟨ret_int (by rw [HCF.out]; simp), XW.out⟩
      · go_wp2
        go_ret
        exact ⟨ret_int (by rw [HCF.out]; simp), XW.out⟩
end Go.Proofs.Ytojobdffnnibaaa

/- PressActs: the reference's Code. -/
namespace Go.Proofs.Ytojobdffnnibaaa
open Go.RowKit
set_option linter.unusedVariables false
set_option linter.unusedSimpArgs false

set_option maxRecDepth 100000 in
set_option maxHeartbeats 4000000 in
theorem rCode_any (p : PressD) (s : StD) (vj vu : Value) (w : World) (hj : Truths w vj p.jam) (hu : UnIn w vu s.units) (hl : s.units.length ≤ 1000000) :
    Calls Try.prog 32 #[pV vj p, sV vu s] w fun e w' => e = .returned (.tuple #[.int .i64 (coD p s), .int .i64 (stErr p s)]) ∧ Ext w w' := by
  have hst := fun w1 (k : Ext w w1) => rStarted_any p s vj vu w1 (Sl.ext hj k) (hu.ext k) hl
  have hco := fun (h1 : s.units.length ≤ 3) (h2 : 0 ≤ s.drive ∧ s.drive ≤ 2) W (k : Ext w W) => rCode0_any s vu W (hu.ext k) h1 h2
  obtain ⟨a, c, rfl, Hu⟩ := hu.form
  obtain ⟨_, aj, cj, hvj, _⟩ := id hj
  rw [List.length_map] at hvj
  subst hvj
  clear hu hl Hu
  unfold pV sV at *
  obtain ⟨e1, he1⟩ : ∃ e, stErr p s = e := ⟨_, rfl⟩
  obtain ⟨R, hR⟩ : ∃ R, coD p s = R := ⟨_, rfl⟩
  rw [he1] at hst
  rw [he1, hR]
  have HST := Lib.hid hst
  have HE1 := Lib.hid he1
  have HR := Lib.hid hR
  have HCO := Lib.hid hco
  clear hst he1 hR hco
  go_enter Try.func32, Try.ntmps32
  go_upto_region 2 with (first
    | (with_reducible refine wpList_boxA (t := 24) (cs := #[.slice aj p.jam.length cj, .int .i64 p.warm, .int .i64 p.tail, .int .i64 p.dirt]) rfl rfl rfl ?_
       rintro xb w1 hx1 hx2 hx3
       have PB := Lib.hid hx1
       have X1 := Lib.hid hx2
       clear hx1 hx2
       clear hx3)
    | (with_reducible refine wpList_boxA (t := 27) (cs := #[.int .i64 s.drive, .bool s.folder, .slice a s.units.length c, .int .i64 s.fresh]) rfl rfl rfl ?_
       rintro sb w2 hy1 hy2 hy3
       have c2 := (PB.out.ext hy2).cell
       have c3 := hy1.cell
       have x2 := X1.out.tr hy2
       clear PB X1
       have X1 := Lib.hid x2
       have SB := Lib.hid hy1
       clear x2 hy1
       clear hy3 hy2)
    | (go_at_call 46
       refine (HST.out _ X1.out).mono ?_
       rintro e w3 ⟨rfl, hx⟩
       have sb2 := SB.out.ext hx
       have x2 := X1.out.tr hx
       clear X1 hx SB c2 c3 HST
       have c3 := sb2.cell
       have X1 := Lib.hid x2
       clear x2))
  by_cases h1 : e1 = 0
  · subst h1
    obtain ⟨hpe, hsh, hsf⟩ := stErr_ok HE1.out
    have hul : s.units.length ≤ 3 := by rw [shaped_len hsh]; exact (pErr_len hpe).2
    have hr2 : R = codeD s := by rw [← HR.out]; unfold coD; rw [if_pos HE1.out]
    have hc2 := HCO.out hul (shaped_nums hsh).1
    rw [← hr2] at hc2
    have HC2 := Lib.hid hc2
    clear hc2
    clear hr2 hpe hsh hsf HCO
    go_wp2_with (
      go_at_call 59
      refine (HC2.out _ X1.out).mono ?_
      rintro e w5 ⟨rfl, hx⟩
      have x2 := X1.out.tr hx
      clear X1 hx
      have X1 := Lib.hid x2
      clear x2)
    go_ret2
    exact ⟨rfl, X1.out⟩
  · have f1 : (e1 != 0) = true := by simp [h1]
    have hr2 : R = 0 := by rw [← HR.out]; unfold coD; rw [if_neg (by rw [HE1.out]; exact h1)]
    have HR2 := Lib.hid hr2
    clear hr2
    go_wp2_with (fail)
    go_ret2
    exact ⟨by rw [HR2.out] <;> rfl, X1.out⟩
end Go.Proofs.Ytojobdffnnibaaa
