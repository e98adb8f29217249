/- agree: a ledger shows what the reference's shows. -/
import Derived.Test.YtekplfbfkfiabaaRfSto
import Derived.Test.YtekplfbfkfiabaaBkSame
import Derived.Test.YtekplfbfkfiabaaFnKit
namespace Go.Proofs.Ytekplfbfkfiabaa
open Go.RowKit Go.Shelf
set_option linter.unusedVariables false
set_option linter.unusedSimpArgs false
attribute [local go_sem] Oper.semAt_some

set_option maxRecDepth 100000 in
set_option maxHeartbeats 4000000 in
theorem agree_any (B lb : Nat) (d : LedD) (m : LMem) (va ve : Value) (i day : Int) (w : World) (h : LSt w B lb d m) (ok : LedOk d) (ha : AccIn w va d.acc) (hs : SigIn w ve d.ents) (hgood : ∀ i : Nat, i < d.n → 1 ≤ (d.at' i).good ∧ (d.at' i).good ≤ 4) :
    Calls Try.prog 46 #[.pointer (some ⟨lb, 0, none⟩), rLed d va ve, .int .i64 i, .int .i64 day] w fun e w' => e = .returned (.bool true) ∧ Ext w w' := by
  have hel := ok.len
  obtain ⟨a, c, rfl, HA⟩ := ha.form
  obtain ⟨a2, c2, rfl, HS⟩ := hs.form
  have hent := fun W (k : Ext w W) => Entries_any B lb d m W (h.ext k) ok
  have hclo := fun W (k : Ext w W) => Closed_any B lb d m W (h.ext k)
  have hbal := fun W (k : Ext w W) => Balance_any B lb d m i day W (h.ext k) ok
  have hsto := fun W (k : Ext w W) => stocks2_any B lb d m day W (h.ext k) ok hgood
  have hrb := fun W (k : Ext w W) => rBal_any d (.slice a d.acc.length c) (.slice a2 d.ents.length c2) i day W (ha.ext k) (hs.ext k) ok
  have hrs := fun W (k : Ext w W) => rStocks_any d (.slice a d.acc.length c) (.slice a2 d.ents.length c2) day W (ha.ext k) (hs.ext k) ok hgood
  unfold rLed at hrb hrs ⊢
  obtain ⟨bv, hbv⟩ : ∃ y, y = balV d i day := ⟨_, rfl⟩
  obtain ⟨be, hbe⟩ : ∃ y, y = balErr d i day := ⟨_, rfl⟩
  rw [← hbv, ← hbe] at hbal hrb
  obtain ⟨se, hse⟩ : ∃ y, y = stkErr day := ⟨_, rfl⟩
  obtain ⟨sv, hsv⟩ : ∃ y, y = stoV d day := ⟨_, rfl⟩
  unfold StoPost at hsto hrs
  rw [← hse, ← hsv] at hsto hrs
  have HENT := Lib.hid hent
  have HCLO := Lib.hid hclo
  have HBAL := Lib.hid hbal
  have HSTO := Lib.hid hsto
  have HRB := Lib.hid hrb
  have HRS := Lib.hid hrs
  clear hent hclo hbal hsto hrb hrs
  clear ha hs hbv hbe hse hsv h ok hgood
  go_enter Try.func46, Try.ntmps46
  go_upto_region 5 with (first
    | (with_reducible refine wpList_boxA (t := 81) rfl rfl rfl ?_
       rintro eb w1 hb1 hx1 hl1
       have X := Lib.hid hx1
       have EB := Lib.hid hb1
       clear hx1 hb1
       clear hl1)
    | (go_at_call 39
       refine (HENT.out _ X.out).mono ?_
       rintro e w2 ⟨v2, rfl, hx2, ho2⟩
       have hne : ∀ b, v2.ownBlock = some b → eb < b := fun b hb => by have := (ho2.lt b hb).1; have := EB.out.lt; omega
       have ho3 := owns_weak ho2 X.out.size
       replace X := Lib.hid (X.out.ext hx2)
       replace EB := Lib.hid (EB.out.ext hx2)
       obtain ⟨a3, c3, rfl⟩ := row_form ho3
       clear hx2 ho2
       have OV := Lib.hid ho3
       have NE3 := Lib.hid hne
       clear ho3 hne)
    | (go_at_call 30
       refine (HCLO.out _ X.out).mono ?_
       rintro e w3 ⟨rfl, hx3⟩
       replace OV := Lib.hid (owns_ext OV.out hx3)
       replace X := Lib.hid (X.out.ext hx3)
       replace EB := Lib.hid (EB.out.ext hx3)
       have b2 := EB.out.cell 2
       have b3 := EB.out.cell 3
       clear hx3)
    | (go_at_call 38
       refine (sameSigned_true d.ents _ _ _ (StIn.of_owns sigC_len OV.out (by omega)) (HS.out.ext X.out)).mono ?_
       rintro e w4 ⟨rfl, n4, hw4⟩
       have hx4 : Ext w3 w4 := by rw [hw4]; exact Ext.of_drewN _ _
       replace OV := Lib.hid (owns_ext OV.out hx4)
       replace X := Lib.hid (X.out.ext hx4)
       replace EB := Lib.hid (EB.out.ext hx4)
       clear b2 b3 hw4 hx4))
  go_upto_region 6 with (
    go_at_call 28
    refine (HBAL.out _ X.out).mono ?_
    rintro e w5 ⟨rfl, hx5⟩
    replace OV := Lib.hid (owns_ext OV.out hx5)
    replace X := Lib.hid (X.out.ext hx5)
    replace EB := Lib.hid (EB.out.ext hx5)
    clear hx5)
  have b0 := EB.out.cell 0
  have b1 := EB.out.cell 1
  have b2 := EB.out.cell 2
  have b3 := EB.out.cell 3
  go_upto_region 9 with (
    go_at_call 79
    refine (HRB.out _ X.out).mono ?_
    rintro e w6 ⟨rfl, hx6⟩
    replace OV := Lib.hid (owns_ext OV.out hx6)
    replace X := Lib.hid (X.out.ext hx6)
    replace EB := Lib.hid (EB.out.ext hx6)
    clear hx6 b0 b1 b2 b3)
  go_upto_region 10 with (
    go_at_call 32
    refine (HSTO.out _ X.out).mono ?_
    rintro e w7 ⟨v7, rfl, hx7, hi7⟩
    replace OV := Lib.hid (owns_ext OV.out hx7)
    replace X := Lib.hid (X.out.ext hx7)
    replace EB := Lib.hid (EB.out.ext hx7)
    obtain ⟨a7, c7, rfl, _⟩ := hi7.form
    clear hx7
    have I7 := Lib.hid hi7
    clear hi7)
  have b0 := EB.out.cell 0
  have b1 := EB.out.cell 1
  have b2 := EB.out.cell 2
  have b3 := EB.out.cell 3
  go_upto_region 14 with (first
    | (go_at_call 80
       refine (HRS.out _ X.out).mono ?_
       rintro e w8 ⟨v8, rfl, hx8, hi8⟩
       replace OV := Lib.hid (owns_ext OV.out hx8)
       replace X := Lib.hid (X.out.ext hx8)
       replace EB := Lib.hid (EB.out.ext hx8)
       replace I7 := Lib.hid (I7.out.ext hx8)
       obtain ⟨a8, c8, rfl, _⟩ := hi8.form
       clear hx8 b0 b1 b2 b3
       have I8 := Lib.hid hi8
       clear hi8)
    | (go_at_call 18
       refine (sameInts_any sv sv _ _ _ I7.out I8.out).mono ?_
       rintro e w9 ⟨rfl, n9, hw9⟩
       have hx9 : Ext w8 w9 := by rw [hw9]; exact Ext.of_drewN _ _
       replace OV := Lib.hid (owns_ext OV.out hx9)
       replace X := Lib.hid (X.out.ext hx9)
       replace EB := Lib.hid (EB.out.ext hx9)
       clear I7 I8 hw9 hx9))
  obtain ⟨n, hn⟩ : ∃ n, n = d.ents.length := ⟨_, rfl⟩
  have hn5 : n ≤ 5000 := by rw [hn]; exact hel
  have ov := OV.out
  rw [← hn] at ov ⊢
  have HNL := Lib.hid hn
  clear hn OV
  go_loopw [17] (fun t wr => ∃ (k : Nat) (es : List SigD), k ≤ n ∧ t = .int .i64 k ∧ Hid (es.length = n ∧ wr.ownsRow w.heap.size 76 5 (.slice a3 n c3) n (es.flatMap sigC)) ∧ Hid (Blk wr eb #[.int .u64 d.key, .slice a d.acc.length c, .slice a2 n c2, .int .i64 d.closed] 81) ∧ Hid (Ext w wr)) (fun t _ => n - (intOf t).toNat)
  case atStart => exact ⟨0, d.ents, Nat.zero_le _, rfl, ⟨HNL.out.symm, ov⟩, by rw [HNL.out]; exact EB.out, X.out⟩
  case round =>
    clear ov X EB
    obtain ⟨k, es, hk, rfl, HO, EB, X⟩ := hrel
    by_cases hlt : k < n
    · obtain ⟨hel2, ho⟩ := HO.out
      obtain ⟨g, c4, hv⟩ := row_pos ho (by omega)
      cases hv
      rw [← hel2] at ho
      have hkl : k < es.length := by omega
      obtain ⟨cur, hbk, hsz, _, hput⟩ := row_el sigC_len ho hkl
      have hlg : w.heap.size ≤ g := (ho.lt g rfl).1
      have hneb := NE3.out g rfl
      have j1 : (0:Int) ≤ (k:Int) := by omega
      have j2 : (k:Int) < (n:Int) := by omega
      have HE2 := Lib.hid hel2
      have BK := Lib.hid hbk
      have SZ := Lib.hid hsz
      have PUT := Lib.hid hput
      have LG := Lib.hid hlg
      have NEB := Lib.hid hneb
      clear hbk hsz hput hlg hneb
      clear ho hel2 HO hlt
      go_wp2_with (
        with_reducible refine wpList_setK (i := k * 5 + 4) (v := .int .u64 3) rfl rfl BK.out ?_ ?_ ?_ ?_ ?_ ?_ ?_
        · rfl
        · rfl
        · have := SZ.out; omega
        · kernel_rfl
        · rfl
        · rfl
        rintro w10 hb10 ho10
        have hrow := PUT.out w10 ⟨es[k].e, 3⟩ 4 _ (by omega) rfl hb10
        have hx10 := X.out.then_only ho10 (fun q e => by rw [e]; exact LG.out)
        have he10 := EB.out.only ho10 (fun e => by have := NEB.out; omega)
        clear X EB BK ho10 hb10
        have ROW := Lib.hid hrow
        have X := Lib.hid hx10
        have EB := Lib.hid he10
        clear hrow hx10 he10)
      go_roundw
      case rel => exact ⟨k + 1, es.set k ⟨es[k].e, 3⟩, by omega, by go_num, Lib.hid ⟨by rw [List.length_set]; exact HE2.out, by rw [← HE2.out]; exact ROW.out⟩, EB, X⟩
      case measure => simp [intOf]; omega
    · obtain rfl : k = n := by omega
      clear hlt HO
      have b2 := EB.out.cell 2
      have hs2 := HS.out
      rw [← HNL.out] at hs2
      have HS2 := Lib.hid hs2
      clear hs2
      go_wp2_with (first
        | (go_at_call 39
           refine (HENT.out _ X.out).mono ?_
           rintro e w11 ⟨v11, rfl, hx11, ho11⟩
           have hs11 : SigIn w11 v11 d.ents := StIn.of_owns sigC_len ho11 (by rw [← HNL.out]; omega)
           replace X := Lib.hid (X.out.ext hx11)
           replace EB := Lib.hid (EB.out.ext hx11)
           have b2 := EB.out.cell 2
           clear hx11 ho11
           obtain ⟨a11, c11, rfl, _⟩ := hs11.form
           rw [← HNL.out] at hs11 ⊢
           have S11 := Lib.hid hs11
           clear hs11)
        | (go_at_call 38
           refine (sameSigned_true d.ents _ _ _ S11.out (HS2.out.ext X.out)).mono ?_
           rintro e w12 ⟨rfl, n12, hw12⟩
           have hx12 : Ext w11 w12 := by rw [hw12]; exact Ext.of_drewN _ _
           replace X := Lib.hid (X.out.ext hx12)
           clear hw12 hx12))
      go_ret
      exact ⟨rfl, X.out⟩
end Go.Proofs.Ytekplfbfkfiabaa
