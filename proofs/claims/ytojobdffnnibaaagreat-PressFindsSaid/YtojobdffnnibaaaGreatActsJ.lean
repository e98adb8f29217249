/- PressActs: the reference's code of a state. -/
import Derived.Test.YtojobdffnnibaaaGreatJ10
import Derived.Test.YtojobdffnnibaaaGreatActsC
namespace Go.Proofs.YtojobdffnnibaaaGreat
open Go.RowKit
set_option linter.unusedVariables false
set_option linter.unusedSimpArgs false

set_option maxRecDepth 100000 in
set_option maxHeartbeats 4000000 in
theorem rCode0_any (s : StD) (vu : Value) (w : World) (hu : UnIn w vu s.units) (hl : s.units.length ≤ 3) (hd : 0 ≤ s.drive ∧ s.drive ≤ 2) :
    Calls Tryz.prog 47 #[sV vu s] w fun e w' => e = .returned (.int .i64 (codeD s)) ∧ Ext w w' := by
  obtain ⟨a, c, rfl, Hu⟩ := hu.form
  clear hu
  have hce := codeD_eq s
  obtain ⟨R, hR⟩ : ∃ R, codeD s = R := ⟨_, rfl⟩
  rw [hR] at hce ⊢
  unfold sV
  have HCE := Lib.hid hce
  have HL := Lib.hid hl
  have HD := Lib.hid hd
  clear hce hl hd
  clear hR
  go_enter Tryz.func47, Tryz.ntmps47
  go_upto_region 3 with (
    with_reducible refine wpList_boxA (t := 27) (cs := #[.int .i64 s.drive, .bool s.folder, .slice a s.units.length c, .int .i64 s.fresh]) rfl rfl rfl ?_
    rintro sb w1 hx1 hx2 hx3
    have SB := Lib.hid hx1
    have X1 := Lib.hid hx2
    clear hx1 hx2
    clear hx3)
  go_loopw [5, 3, 4] (fun t5 t3 t4 wr => ∃ k : Nat, k ≤ s.units.length ∧ t5 = .int .i64 k ∧ t3 = .int .i64 (cN s.units k : Nat) ∧ t4 = .int .i64 (16 ^ k : Nat) ∧ Hid (Ext w1 wr)) (fun t5 _ _ _ => s.units.length - (intOf t5).toNat)
  case atStart => exact ⟨0, by omega, rfl, rfl, rfl, Below.refl _ _⟩
  case round =>
    obtain ⟨k, hk, rfl, rfl, rfl, HX⟩ := hrel
    have hkb : k ≤ 3 := Nat.le_trans hk HL.out
    have d := (SB.out.ext HX.out).cell
    by_cases hlt : k < s.units.length
    · obtain ⟨b, o, rfl, hc⟩ := UnIn.cells (Hu.out.ext (X1.out.tr HX.out)) (by omega)
      obtain ⟨d0, d1, d2, d3, d4⟩ := hc k hlt
      have hs := cN_succ s.units k hlt
      have hcl := cN_lt s.units k (by omega)
      obtain ⟨u, hu⟩ : ∃ u, s.units[k] = u := ⟨_, rfl⟩
      rw [hu] at d0 d1 d2 d3 d4 hs
      obtain ⟨uo, ut, uc, up, ui⟩ := u
      dsimp only at *
      obtain ⟨o0, ho0⟩ : ∃ n, 16 ^ k = n := ⟨_, rfl⟩
      obtain ⟨c0, hc0⟩ : ∃ n, cN s.units k = n := ⟨_, rfl⟩
      have ho1 : o0 ≤ 256 := by
        have h3 := HL.out
        have : k ≤ 2 := by omega
        rw [← ho0]; exact Nat.le_trans (Nat.pow_le_pow_right (by omega) this) (by decide)
      rw [ho0] at hs hcl ⊢
      rw [hc0] at hs hcl ⊢
      have hpw : 16 ^ (k + 1) = o0 * 16 := by rw [Nat.pow_succ, ho0]
      have i1 : (0:Int) ≤ (k:Int) := by omega
      have i2 : (k:Int) < (s.units.length:Int) := by omega
      have HS := Lib.hid hs
      have HPW := Lib.hid hpw
      clear hs hpw
      clear hu hc ho0 hc0
      go_upto_region 7 with (fail)
      obtain ⟨wu, hwu⟩ : ∃ W, wr.alloc (.cells #[.bool uo, .bool ut, .bool uc, .bool up, .int .i64 ui] 63) = W := ⟨_, rfl⟩
      have hx1 : Ext wr wu := by rw [← hwu]; exact (newB wr _ _).2.1
      have hsz : wr.heap.size + 1 = wu.heap.size := by rw [← hwu]; simp only [World.alloc, Array.size_push]
      rw [hwu, hsz]
      have hnb := newB wu #[.bool uo, .bool ut, .bool uc, .bool up] 4
      have lbk : Blk (wu.alloc (.cells #[.bool uo, .bool ut, .bool uc, .bool up] 4)) wu.heap.size #[.bool uo, .bool ut, .bool uc, .bool up] 4 := hnb.1
      have hx2 := HX.out.tr (hx1.tr hnb.2.1)
      clear hnb d d0 d1 d2 d3 d4 hx1 hwu hsz
      generalize wu.alloc (.cells #[.bool uo, .bool ut, .bool uc, .bool up] 4) = wl at *
      obtain ⟨lb, hlb⟩ : ∃ n, wu.heap.size = n := ⟨_, rfl⟩
      rw [hlb] at lbk ⊢
      clear hlb
      have LB := Lib.hid lbk
      have XL := Lib.hid hx2
      clear lbk hx2
      go_upto_region 8 with (fail)
      go_loopw [8, 3, 4] (fun t8 t3 t4 wq => ∃ q cc oo : Nat, q ≤ 4 ∧ t8 = .int .i64 q ∧ t3 = .int .i64 cc ∧ t4 = .int .i64 oo ∧ Hid (cc = c0 + o0 * bitsN ([uo, ut, uc, up].take q)) ∧ Hid (oo = o0 * 2 ^ q) ∧ Hid (Ext wl wq)) (fun t8 _ _ _ => 4 - (intOf t8).toNat)
      case atStart => exact ⟨0, c0, o0, by omega, rfl, rfl, rfl, (by show c0 = c0 + o0 * 0; omega), (by show o0 = o0 * 1; omega), Below.refl _ _⟩
      case round =>
        obtain ⟨q, cc, oo, hq, rfl, rfl, rfl, HCC, HOO, HY⟩ := hrel
        have dl := (LB.out.ext HY.out).cell
        by_cases hlq : q < 4
        · have hst := bitsN_take [uo, ut, uc, up] q hlq
          have hb1 := bitsN_lt ([uo, ut, uc, up].take q)
          have hat : (#[Value.bool uo, .bool ut, .bool uc, .bool up] : Array Value)[q]? = some (.bool [uo, ut, uc, up][q]) := by
            have : q = 0 ∨ q = 1 ∨ q = 2 ∨ q = 3 := by omega
            rcases this with rfl | rfl | rfl | rfl <;> rfl
          have dq := (dl q).trans hat
          obtain ⟨f, hf⟩ : ∃ f, [uo, ut, uc, up][q] = f := ⟨_, rfl⟩
          rw [hf] at dq hst
          have hp : 2 ^ q ≤ 8 := Nat.le_trans (Nat.pow_le_pow_right (by omega) (show q ≤ 3 by omega)) (by decide)
          have hoo := HOO.out
          have hoob : oo ≤ 256 * 8 := by rw [hoo]; exact Nat.mul_le_mul ho1 hp
          have hcc := HCC.out
          have hb2 : bitsN ([uo, ut, uc, up].take q) ≤ 8 := by
            have h5 : 2 ^ ([uo, ut, uc, up].take q).length ≤ 8 := Nat.le_trans (Nat.pow_le_pow_right (by omega) (show ([uo, ut, uc, up].take q).length ≤ 3 by rw [List.length_take]; omega)) (by decide)
            omega
          have hccb : cc ≤ 256 + 256 * 8 := by rw [hcc]; exact Nat.add_le_add (by omega) (Nat.mul_le_mul ho1 hb2)
          have hn1 : o0 * 2 ^ (q + 1) = oo + oo := by rw [hoo, Nat.pow_succ]; rw [← Nat.mul_assoc]; omega
          have hn2 : c0 + o0 * bitsN ([uo, ut, uc, up].take (q + 1)) = cc + oo * f.toNat := by rw [hst, hcc, hoo, Nat.mul_add, Nat.mul_assoc, Nat.add_assoc]
          have i3 : (0:Int) ≤ (q:Int) := by omega
          have i4 : (q:Int) < 4 := by omega
          clear dl hst hb1 hat hf hp hoo hcc hb2
          have HN1 := Lib.hid hn1
          have HN2 := Lib.hid hn2
          clear hn1 hn2
          cases f
          · go_wp2
            go_roundw
            case rel => exact ⟨q + 1, cc, oo + oo, by omega, by go_num, rfl, by go_num, (by have h := HN2.out; simp only [Bool.toNat_false, Bool.toNat_true, Nat.mul_zero, Nat.add_zero, Nat.mul_one] at h; exact h.symm), HN1.out.symm, HY⟩
            case measure => first | (simp [intOf]; done) | (simp [intOf]; omega)
          · go_wp2
            go_roundw
            case rel => exact ⟨q + 1, cc + oo, oo + oo, by omega, by go_num, by go_num, by go_num, (by have h := HN2.out; simp only [Bool.toNat_false, Bool.toNat_true, Nat.mul_zero, Nat.add_zero, Nat.mul_one] at h; exact h.symm), HN1.out.symm, HY⟩
            case measure => first | (simp [intOf]; done) | (simp [intOf]; omega)
        · have i4 : decide ((q:Int) < 4) = false := decide_eq_false (by omega)
          obtain rfl : q = 4 := by omega
          have hcc := HCC.out
          have hoo := HOO.out
          have hb4 : bitsN ([uo, ut, uc, up].take 4) = uo.toNat + 2 * ut.toNat + 4 * uc.toNat + 8 * up.toNat := by
            simp only [List.take_succ_cons, List.take_zero, bitsN]; omega
          have hc5 : cN s.units (k + 1) = cc := by rw [HS.out, hcc, hb4]
          have ho5 : 16 ^ (k + 1) = oo := by rw [HPW.out, hoo]
          have xf := XL.out.tr HY.out
          clear dl hcc hoo hb4
          have HC5 := Lib.hid hc5
          have HO5 := Lib.hid ho5
          have XF := Lib.hid xf
          clear hc5 ho5 xf
          go_wp2
          go_roundw
          case rel => exact ⟨k + 1, by omega, by go_num, by rw [HC5.out], by rw [HO5.out], XF⟩
          case measure => first | (simp [intOf]; done) | (simp [intOf]; omega)
    · have i2 : decide ((k:Int) < (s.units.length:Int)) = false := decide_eq_false (by omega)
      obtain rfl : k = s.units.length := by omega
      have hcl := cN_lt s.units s.units.length (by omega)
      have h4 : (16:Nat) ^ s.units.length ≤ 4096 := Nat.le_trans (Nat.pow_le_pow_right (by omega) HL.out) (by decide)
      obtain ⟨c0, hc0⟩ : ∃ n, cN s.units s.units.length = n := ⟨_, rfl⟩
      have hc1 : c0 < 4096 := by omega
      have hce := HCE.out
      rw [hc0] at hce ⊢
      have hdr := HD.out
      obtain ⟨fo, hfo⟩ : ∃ f, s.folder = f := ⟨_, rfl⟩
      obtain ⟨dr, hdr2⟩ : ∃ f, s.drive = f := ⟨_, rfl⟩
      rw [hfo, hdr2] at d hce
      rw [hdr2] at hdr
      have xw := X1.out.tr HX.out
      have HCF := Lib.hid hce
      have XW := Lib.hid xw
      clear hce xw
      clear hc0 hcl h4 hfo hdr2 HCE
      cases fo
      · go_wp2
        go_ret
        exact ⟨ret_int (by rw [HCF.out]; simp), XW.out⟩
      · go_wp2
        go_ret
        exact ⟨ret_int (by rw [HCF.out]; simp), XW.out⟩
end Go.Proofs.YtojobdffnnibaaaGreat
