/- The library's stable sort of a row of numbers, of whatever length up to 1000. -/
import Derived.Test.YtekplfbfkfiabaaStbB
import Derived.Test.YtekplfbfkfiabaaStbC
namespace Go.Proofs.Ytekplfbfkfiabaa
open Go.RowKit
set_option linter.unusedVariables false
set_option linter.unusedSimpArgs false

set_option maxRecDepth 100000 in
set_option maxHeartbeats 4000000 in
theorem stableCmp_any (g : Nat) (caps : Array Value) (cmp : Int → Int → Int) (key : Int → Int) (hk : ∀ x y, cmp x y < 0 ↔ key x < key y) (P : Int → Prop) (ys : List Int) (n : Nat) (w : World) (hb : Blk w g (iA ys) 3) (hn : ys.length = n) (hn2 : n ≤ 1000) (hy : ys.Pairwise (· < ·))
    (hP : ∀ x ∈ ys, P x) (hc : CmpOk w g caps cmp P) :
    Calls Try.prog 91 #[.slice (some ⟨g, 0, none⟩) n n, .int .i64 n, .func (.func 56) #[] caps] w fun e w' => e = .returned (.tuple #[]) ∧ (∃ zs, zs.Perm ys ∧ zs.Pairwise (ltK key) ∧ Blk w' g (iA zs) 3) ∧ Only (fun k => k = g) w w' := by
  have hins := fun (zs : List Int) (a b : Nat) W (h1 : Blk W g (iA zs) 3) (h2 : zs.length = n) (hp : zs.Perm ys) (h3 : a ≤ b) (h4 : b ≤ n) (h6 : Only (fun k => k = g) w W) => insertion_any g caps cmp P zs n a b W h1 h2 hn2 h3 h4 (fun x hx => hP x (hp.mem_iff.1 hx)) (hc.only h6)
  have hsym := fun (zs : List Int) (a m b : Nat) W (h1 : Blk W g (iA zs) 3) (h2 : zs.length = n) (hp : zs.Perm ys) (h3 : a < m) (h4 : m < b) (h5 : b ≤ n) (h7 : SymIn cmp (ltK key) (seg zs a m) (seg zs m b)) (h6 : Only (fun k => k = g) w W) =>
    symMerge_any g caps cmp P (ltK key) (ltK_sto key) n hn2 ((seg zs a m).length + (seg zs m b).length) (zs.take a) (seg zs a m) (seg zs m b) (zs.drop b) a m b W (Nat.le_refl _) (by rw [← seg_split3 zs (by omega) (by omega)]; exact h2)
      (by rw [List.length_take]; omega) (by rw [seg_len (by omega) (by omega)]; omega) (by rw [seg_len (by omega) (by omega)]; omega) (by rw [seg_len (by omega) (by omega)]; omega) (by rw [seg_len (by omega) (by omega)]; omega) h7
      (fun x hx => by
        rw [← seg_join zs (by omega) (by omega)] at hx
        unfold seg at hx
        exact hP x (hp.mem_iff.1 (List.mem_of_mem_drop (List.mem_of_mem_take hx))))
      (by rw [← seg_split3 zs (by omega) (by omega)]; exact h1) (hc.only h6)
  have hst := Inss.start (key := key) (s := 20) hn
  have HINS := Lib.hid hins
  have HSYM := Lib.hid hsym
  have HB := Lib.hid hb
  have HN := Lib.hid hn
  have HY := Lib.hid hy
  have HK := Lib.hid hk
  have HST := Lib.hid hst
  clear hins hsym hb hn hy hk hst
  clear hP hc
  go_enter Try.func91, Try.ntmps91
  go_wp2
  go_loopw [7, 8] (fun a b wr => ∃ (c p q : Nat) (zs : List Int), a = .int .i64 p ∧ b = .int .i64 q ∧ p ≤ n ∧ q = p + 20 ∧ Hid (Inss key ys n 20 c p zs) ∧ Hid (Blk wr g (iA zs) 3) ∧ Hid (Only (fun k => k = g) w wr)) (fun a _ _ => n + 20 - (intOf a).toNat)
  case atStart => exact ⟨0, 0, 20, ys, rfl, rfl, Nat.zero_le _, rfl, HST, HB.out, Only.refl _ _⟩
  case round =>
    clear HST HB
    obtain ⟨c, p, q, zs, rfl, rfl, hpn, hqe, HI, HB, HO⟩ := hrel
    have HQ := Lib.hid hqe
    by_cases hq : q ≤ n
    · have hs := HI.out.step HK.out HY.out (show p + 20 ≤ n by omega)
      have hin := fun W (h1 : Blk W g (iA zs) 3) (h6 : Only (fun k => k = g) w W) => HINS.out zs p q W h1 HI.out.hz HI.out.perm (by omega) hq h6
      rw [← hqe] at hs
      have HS := Lib.hid hs
      have HIN := Lib.hid hin
      clear hs hin
      clear hqe
      go_wp2_with (
        go_at_call 114
        refine (HIN.out _ HB.out HO.out).mono ?_
        rintro e w1 ⟨rfl, hb1, ho1⟩
        have ho2 := HO.out.tr ho1
        clear HB HO ho1
        have HB := Lib.hid hb1
        have HO := Lib.hid ho2
        clear hb1 ho2)
      go_roundw
      case rel => exact ⟨c + 1, q, q + 20, _, rfl, by go_num, hq, rfl, HS, HB, HO⟩
      case measure => have h9 := HQ.out; simp only [intOf, Int.toNat_natCast]; omega
    · obtain ⟨l1, l2, l3⟩ := HI.out.last HK.out HY.out hpn (show n < p + 20 by omega)
      have hin := fun W (h1 : Blk W g (iA zs) 3) (h6 : Only (fun k => k = g) w W) => HINS.out zs p n W h1 HI.out.hz HI.out.perm hpn (Nat.le_refl _) h6
      obtain ⟨zs2, hz2⟩ : ∃ z, z = insN cmp p (n - (p + 1)) zs := ⟨_, rfl⟩
      rw [← hz2] at l1 l2 l3 hin
      have HIN := Lib.hid hin
      have L1 := Lib.hid l1
      have L2 := Lib.hid l2
      have L3 := Lib.hid l3
      clear hin l1 l2 l3
      clear hqe hz2
      go_upto_region 7 with (
        go_at_call 114
        refine (HIN.out _ HB.out HO.out).mono ?_
        rintro e w1 ⟨rfl, hb1, ho1⟩
        have ho2 := HO.out.tr ho1
        clear HB HO ho1
        have HB := Lib.hid hb1
        have HO := Lib.hid ho2
        clear hb1 ho2)
      obtain ⟨w5, rfl⟩ : ∃ W, W = wr := ⟨wr, rfl⟩
      clear HI
      go_loopw [6] (fun a wr => ∃ (s : Nat) (zs : List Int), a = .int .i64 s ∧ 20 ≤ s ∧ s ≤ 2000 ∧ Hid (zs.length = n) ∧ Hid (zs.Perm ys) ∧ Hid (∀ k, BlkOk key ys s k zs) ∧ Hid (Blk wr g (iA zs) 3) ∧ Hid (Only (fun k => k = g) w wr)) (fun a _ => 4000 - (intOf a).toNat)
      case atStart => exact ⟨20, zs2, rfl, Nat.le_refl _, by omega, L1, L2, L3, HB.out, HO.out⟩
      case round =>
        clear L1 L2 L3 HB HO
        obtain ⟨s, zs, rfl, hs1, hs2, L1, L2, L3, HB, HO⟩ := hrel
        by_cases hsn : s < n
        · obtain ⟨d, hd⟩ : ∃ d, d = 2 * s := ⟨_, rfl⟩
          have k2 : IntKind.i64.wrap (2 * (s:Int)) = (d : Int) := by rw [i64_eq _ ⟨by omega, by omega⟩]; omega
          have k2' : IntKind.i64.wrap ((s:Int) * 2) = (d : Int) := by rw [i64_eq _ ⟨by omega, by omega⟩]; omega
          have hd2 : 40 ≤ d := by omega
          have hd3 : d ≤ 2000 := by omega
          have hds : s < d := by omega
          have HD := Lib.hid hd
          have hms := Mids.start HN.out L1.out L2.out L3.out
          have HMS := Lib.hid hms
          clear hms
          clear hd L1 L2 L3
          go_upto_region 9 with (fail)
          obtain ⟨w6, rfl⟩ : ∃ W, W = wr := ⟨wr, rfl⟩
          go_loopw [7, 8] (fun a b wr => ∃ (c p q : Nat) (zs : List Int), a = .int .i64 p ∧ b = .int .i64 q ∧ p ≤ n ∧ q = p + d ∧ Hid (Mids key ys n s c p zs) ∧ Hid (Blk wr g (iA zs) 3) ∧ Hid (Only (fun k => k = g) w wr)) (fun a _ _ => n + d - (intOf a).toNat)
          case atStart => exact ⟨0, 0, d, zs, rfl, rfl, Nat.zero_le _, by omega, HMS, HB.out, HO.out⟩
          case round =>
            clear HMS HB HO
            obtain ⟨c, p, q, zs, rfl, rfl, hpn, hqe, HM, HB, HO⟩ := hrel
            have HQ := Lib.hid hqe
            obtain ⟨m, hm⟩ : ∃ m, m = p + s := ⟨_, rfl⟩
            have km : IntKind.i64.wrap ((p:Int) + (s:Int)) = (m : Int) := by rw [i64_eq _ ⟨by omega, by omega⟩]; omega
            have hq2 : q = p + 2 * s := by rw [hqe, HD.out]
            by_cases hq : q ≤ n
            · obtain ⟨⟨a1, a2⟩, a3, a4⟩ := HM.out.parts
              have hstep := fun M h => HM.out.step (by omega) (M := M) h
              rw [← hm, ← hq2] at a3 a4
              rw [← hm] at a1 a2
              rw [← hm, ← hq2] at hstep
              have hsi := SymIn.blocks HK.out HY.out (show p ≤ m by omega) (show m ≤ q by omega) a1 a2 a3 a4
              have hin := fun W (h1 : Blk W g (iA zs) 3) (h6 : Only (fun k => k = g) w W) => HSYM.out zs p m q W h1 HM.out.hz HM.out.perm (by omega) (by omega) hq hsi h6
              have kq : IntKind.i64.wrap ((q:Int) + (d:Int)) = ((q + d : Nat) : Int) := by rw [i64_eq _ ⟨by omega, by omega⟩]; omega
              have HIN := Lib.hid hin
              have STP := Lib.hid hstep
              clear hin hstep
              clear hqe hq2 hm a1 a2 a3 a4 hsi
              go_wp2_with (
                go_at_call 115
                refine (HIN.out _ HB.out HO.out).mono ?_
                rintro e w7 ⟨rfl, ⟨M, hM, hb1⟩, ho1⟩
                have ho2 := HO.out.tr ho1
                have hmn := STP.out M hM
                clear HB HO ho1
                have HB := Lib.hid hb1
                have HO := Lib.hid ho2
                have HMN := Lib.hid hmn
                clear hb1 ho2 hmn)
              go_roundw
              case rel => exact ⟨c + 1, q, q + d, _, rfl, by go_num, hq, rfl, HMN, HB, HO⟩
              case measure => have h9 := HQ.out; simp only [intOf, Int.toNat_natCast]; omega
            · by_cases hmn : m < n
              · obtain ⟨⟨a1, a2⟩, _, _⟩ := HM.out.parts
                obtain ⟨a3, a4⟩ := HM.out.endParts (by omega)
                have hstep := fun M h => HM.out.endStep (by omega) (by omega) (M := M) h
                rw [← hm] at a1 a2 a3 a4 hstep
                have hsi := SymIn.blocks HK.out HY.out (show p ≤ m by omega) (show m ≤ n by omega) a1 a2 a3 a4
                have hin := fun W (h1 : Blk W g (iA zs) 3) (h6 : Only (fun k => k = g) w W) => HSYM.out zs p m n W h1 HM.out.hz HM.out.perm (by omega) hmn (Nat.le_refl _) hsi h6
                rw [← HD.out] at hstep
                have HIN := Lib.hid hin
                have STP := Lib.hid hstep
                clear hin hstep
                clear hqe hq2 hm a1 a2 a3 a4 hsi
                go_wp2_with (
                  go_at_call 115
                  refine (HIN.out _ HB.out HO.out).mono ?_
                  rintro e w7 ⟨rfl, ⟨M, hM, hb1⟩, ho1⟩
                  have ho2 := HO.out.tr ho1
                  obtain ⟨s1, s2, s3⟩ := STP.out M hM
                  clear HB HO ho1
                  have HB := Lib.hid hb1
                  have HO := Lib.hid ho2
                  have S1 := Lib.hid s1
                  have S2 := Lib.hid s2
                  have S3 := Lib.hid s3
                  clear hb1 ho2 s1 s2 s3)
                go_roundw
                case rel => exact ⟨d, _, rfl, by omega, hd3, S1, S2, S3, HB, HO⟩
                case measure => simp only [intOf, Int.toNat_natCast]; omega
              · have hstop := HM.out.stop (by omega)
                rw [← HD.out] at hstop
                have STP := Lib.hid hstop
                clear hstop
                clear hqe hq2 hm
                go_wp2
                go_roundw
                case rel => exact ⟨d, zs, rfl, by omega, hd3, HM.out.hz, HM.out.perm, STP, HB, HO⟩
                case measure => simp only [intOf, Int.toNat_natCast]; omega
        · obtain ⟨z1, z2⟩ := BlkOk.whole HN.out L1.out L3.out (show n ≤ s by omega)
          have Z1 := Lib.hid z1
          have Z2 := Lib.hid z2
          clear z1 z2
          go_wp2
          go_end0
          exact ⟨rfl, ⟨zs, Z1.out, Z2.out, HB.out⟩, HO.out⟩
/-- The library's stable sort: what the sort by insertion gives. -/
theorem stable_any (g : Nat) (caps : Array Value) (cmp : Int → Int → Int) (key : Int → Int) (hk : ∀ x y, cmp x y < 0 ↔ key x < key y) (P : Int → Prop) (ys : List Int) (n : Nat) (w : World) (hb : Blk w g (iA ys) 3) (hn : ys.length = n) (hn2 : n ≤ 1000) (hy : ys.Pairwise (· < ·))
    (hP : ∀ x ∈ ys, P x) (hc : CmpOk w g caps cmp P) :
    Calls Try.prog 55 #[.slice (some ⟨g, 0, none⟩) n n, .func (.func 56) #[] caps] w fun e w' => e = .returned (.tuple #[]) ∧ Blk w' g (iA (insN cmp 0 (n - 1) ys)) 3 ∧ Only (fun k => k = g) w w' := by
  have HI := Lib.hid (stableCmp_any g caps cmp key hk P ys n w hb hn hn2 hy hP hc)
  obtain ⟨M, m1, m2, m3⟩ := insN_whole hk [] ys [] hy
  rw [List.append_nil, List.append_nil, List.nil_append, List.nil_append, List.length_nil, hn] at m3
  have HU : Hid (∀ zs : List Int, zs.Perm ys → zs.Pairwise (ltK key) → zs = insN cmp 0 (n - 1) ys) := fun zs h1 h2 => by
    rw [m3]; exact sorted_unique (ltK_sto key) (h1.trans m1.symm) h2 m2
  clear hb hP hc m1 m2 m3 hy
  go_enter Try.func55, Try.ntmps55
  go_wp2_with (
    go_at_call 91
    refine HI.out.mono ?_
    rintro e w' ⟨rfl, ⟨zs, h1, h2, h3⟩, h4⟩
    have h5 := HU.out zs h1 h2
    clear h1 h2
    have H1 := Lib.hid h3
    have H2 := Lib.hid h4
    have H5 := Lib.hid h5
    clear h3 h4 h5)
  go_end0
  exact ⟨rfl, by rw [← H5.out]; exact H1.out, H2.out⟩
end Go.Proofs.Ytekplfbfkfiabaa
