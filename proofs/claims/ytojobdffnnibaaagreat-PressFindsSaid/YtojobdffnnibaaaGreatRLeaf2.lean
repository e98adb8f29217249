/- The reference's count, safe, started. -/
import Derived.Test.YtojobdffnnibaaaGreatJ3
namespace Go.Proofs.YtojobdffnnibaaaGreat
open Go.RowKit
set_option linter.unusedVariables false
set_option linter.unusedSimpArgs false

theorem filt_snoc (f : UnitD → Bool) (us : List UnitD) (k : Nat) (hk : k < us.length) : ((us.take (k + 1)).filter f).length = ((us.take k).filter f).length + if f us[k] then 1 else 0 := by
  rw [List.take_succ_eq_append_getElem hk, List.filter_append, List.length_append]
  congr 1
  rw [List.filter_cons]
  split <;> simp_all
theorem filt_le (f : UnitD → Bool) (us : List UnitD) (k : Nat) : ((us.take k).filter f).length ≤ k :=
  Nat.le_trans (List.length_filter_le _ _) (List.length_take_le _ _)

set_option maxRecDepth 100000 in
set_option maxHeartbeats 2000000 in
theorem rCount_any (s : StD) (vu : Value) (w : World) (hu : UnIn w vu s.units) (hl : s.units.length ≤ 1000000) :
    Calls Tryz.prog 78 #[sV vu s] w fun e w' => e = .returned (.tuple #[.int .i64 (nOpen s), .int .i64 (nPr s)]) ∧ Ext w w' := by
  obtain ⟨a, c, rfl, Hu⟩ := hu.form
  clear hu
  obtain ⟨f0, hf0⟩ : ∃ f0 : Nat, (if s.folder then 1 else 0) = f0 := ⟨_, rfl⟩
  have hf1 : f0 ≤ 1 := by rw [← hf0]; split <;> omega
  have hno : nOpen s = f0 + (s.units.filter (·.op)).length := by unfold nOpen; rw [hf0]
  have hnp : nPr s = (s.units.filter (·.pr)).length := rfl
  unfold sV
  have HNO := Lib.hid hno
  have HNP := Lib.hid hnp
  have HL := Lib.hid hl
  clear hno hnp hl
  go_enter Tryz.func78, Tryz.ntmps78
  go_upto_region 1 with (
    with_reducible refine wpList_boxA (t := 27) (cs := #[.int .i64 s.drive, .bool s.folder, .slice a s.units.length c, .int .i64 s.fresh]) rfl rfl rfl ?_
    rintro sb w1 hx1 hx2 hx3
    have c1 := hx1.cell
    have SB := Lib.hid hx1
    have X1 := Lib.hid hx2
    clear hx1 hx2
    clear hx3)
  cases hfo : s.folder
  · rw [hfo] at hf0
    have hf : f0 = 0 := by simpa using hf0.symm
    have HF := Lib.hid hf
    clear hf
    clear hf0
    rw [hfo] at c1
    go_upto_region 4 with (fail)
    clear c1
    go_wp2
    go_loopw [6, 4, 5] (fun t6 t4 t5 wr => ∃ k no np : Nat, k ≤ s.units.length ∧ t6 = .int .i64 k ∧ t4 = .int .i64 no ∧ t5 = .int .i64 np ∧ Hid (no = f0 + ((s.units.take k).filter (·.op)).length) ∧ Hid (np = ((s.units.take k).filter (·.pr)).length) ∧ Hid (Ext w1 wr)) (fun t6 _ _ _ => s.units.length - (intOf t6).toNat)
    case atStart => exact ⟨0, f0, 0, by omega, rfl, by rw [HF.out]; rfl, rfl, rfl, rfl, Below.refl _ _⟩
    case round =>
      obtain ⟨k, no, np, hk, rfl, rfl, rfl, HNO2, HNP2, HX⟩ := hrel
      have d := (SB.out.ext HX.out).cell
      have hkb : k ≤ 1000000 := Nat.le_trans hk HL.out
      have hnb : no ≤ k + 1 := by rw [HNO2.out]; have := filt_le (·.op) s.units k; omega
      have hpb : np ≤ k := by rw [HNP2.out]; exact filt_le _ _ _
      by_cases hlt : k < s.units.length
      · obtain ⟨b, o, rfl, hc⟩ := UnIn.cells (Hu.out.ext (X1.out.tr HX.out)) (by omega)
        obtain ⟨d0, _, _, d3, _⟩ := hc k hlt
        have s0 := filt_snoc (·.op) s.units k hlt
        have s3 := filt_snoc (·.pr) s.units k hlt
        obtain ⟨x0, hx0⟩ : ∃ x, s.units[k].op = x := ⟨_, rfl⟩
        obtain ⟨x3, hx3⟩ : ∃ x, s.units[k].pr = x := ⟨_, rfl⟩
        rw [hx0] at d0
        rw [hx3] at d3
        rw [hx0] at s0
        rw [hx3] at s3
        have i1 : (0:Int) ≤ (k:Int) := by omega
        have i2 : (k:Int) < (s.units.length:Int) := by omega
        have S0 := Lib.hid s0
        have S3 := Lib.hid s3
        clear s0 s3
        clear hx0 hx3 hc
        cases x0 <;> cases x3
        · go_wp2_with (fail)
          go_roundw
          case rel => exact ⟨k + 1, no, np, by omega, by go_num, rfl, rfl, by rw [S0.out, HNO2.out]; rfl, by rw [S3.out, HNP2.out]; rfl, HX⟩
          case measure => first | (simp [intOf]; done) | (simp [intOf]; omega)
        · go_wp2_with (fail)
          go_roundw
          case rel => exact ⟨k + 1, no, np + 1, by omega, by go_num, rfl, by go_num, by rw [S0.out, HNO2.out]; rfl, by rw [S3.out, HNP2.out]; rfl, HX⟩
          case measure => first | (simp [intOf]; done) | (simp [intOf]; omega)
        · go_wp2_with (fail)
          go_roundw
          case rel => exact ⟨k + 1, no + 1, np, by omega, by go_num, by go_num, rfl, by rw [S0.out, HNO2.out]; rfl, by rw [S3.out, HNP2.out]; rfl, HX⟩
          case measure => first | (simp [intOf]; done) | (simp [intOf]; omega)
        · go_wp2_with (fail)
          go_roundw
          case rel => exact ⟨k + 1, no + 1, np + 1, by omega, by go_num, by go_num, by go_num, by rw [S0.out, HNO2.out]; rfl, by rw [S3.out, HNP2.out]; rfl, HX⟩
          case measure => first | (simp [intOf]; done) | (simp [intOf]; omega)
      · have i2 : decide ((k:Int) < (s.units.length:Int)) = false := decide_eq_false (by omega)
        obtain rfl : k = s.units.length := by omega
        have e1 := HNO2.out
        have e2 := HNP2.out
        rw [List.take_length, ← HNO.out] at e1
        rw [List.take_length, ← HNP.out] at e2
        have E1 := Lib.hid e1
        have E2 := Lib.hid e2
        clear e1 e2
        go_wp2_with (fail)
        refine bodyPost_ret (v := .tuple #[.int .i64 no, .int .i64 np]) (by simp [results, Tryz.results78, go_sem]) rfl ?_
        exact ⟨by rw [← E1.out, ← E2.out], X1.out.tr HX.out⟩
  · rw [hfo] at hf0
    have hf : f0 = 1 := by simpa using hf0.symm
    have HF := Lib.hid hf
    clear hf
    clear hf0
    rw [hfo] at c1
    go_upto_region 4 with (fail)
    clear c1
    go_wp2
    go_loopw [6, 4, 5] (fun t6 t4 t5 wr => ∃ k no np : Nat, k ≤ s.units.length ∧ t6 = .int .i64 k ∧ t4 = .int .i64 no ∧ t5 = .int .i64 np ∧ Hid (no = f0 + ((s.units.take k).filter (·.op)).length) ∧ Hid (np = ((s.units.take k).filter (·.pr)).length) ∧ Hid (Ext w1 wr)) (fun t6 _ _ _ => s.units.length - (intOf t6).toNat)
    case atStart => exact ⟨0, f0, 0, by omega, rfl, by rw [HF.out]; rfl, rfl, rfl, rfl, Below.refl _ _⟩
    case round =>
      obtain ⟨k, no, np, hk, rfl, rfl, rfl, HNO2, HNP2, HX⟩ := hrel
      have d := (SB.out.ext HX.out).cell
      have hkb : k ≤ 1000000 := Nat.le_trans hk HL.out
      have hnb : no ≤ k + 1 := by rw [HNO2.out]; have := filt_le (·.op) s.units k; omega
      have hpb : np ≤ k := by rw [HNP2.out]; exact filt_le _ _ _
      by_cases hlt : k < s.units.length
      · obtain ⟨b, o, rfl, hc⟩ := UnIn.cells (Hu.out.ext (X1.out.tr HX.out)) (by omega)
        obtain ⟨d0, _, _, d3, _⟩ := hc k hlt
        have s0 := filt_snoc (·.op) s.units k hlt
        have s3 := filt_snoc (·.pr) s.units k hlt
        obtain ⟨x0, hx0⟩ : ∃ x, s.units[k].op = x := ⟨_, rfl⟩
        obtain ⟨x3, hx3⟩ : ∃ x, s.units[k].pr = x := ⟨_, rfl⟩
        rw [hx0] at d0
        rw [hx3] at d3
        rw [hx0] at s0
        rw [hx3] at s3
        have i1 : (0:Int) ≤ (k:Int) := by omega
        have i2 : (k:Int) < (s.units.length:Int) := by omega
        have S0 := Lib.hid s0
        have S3 := Lib.hid s3
        clear s0 s3
        clear hx0 hx3 hc
        cases x0 <;> cases x3
        · go_wp2_with (fail)
          go_roundw
          case rel => exact ⟨k + 1, no, np, by omega, by go_num, rfl, rfl, by rw [S0.out, HNO2.out]; rfl, by rw [S3.out, HNP2.out]; rfl, HX⟩
          case measure => first | (simp [intOf]; done) | (simp [intOf]; omega)
        · go_wp2_with (fail)
          go_roundw
          case rel => exact ⟨k + 1, no, np + 1, by omega, by go_num, rfl, by go_num, by rw [S0.out, HNO2.out]; rfl, by rw [S3.out, HNP2.out]; rfl, HX⟩
          case measure => first | (simp [intOf]; done) | (simp [intOf]; omega)
        · go_wp2_with (fail)
          go_roundw
          case rel => exact ⟨k + 1, no + 1, np, by omega, by go_num, by go_num, rfl, by rw [S0.out, HNO2.out]; rfl, by rw [S3.out, HNP2.out]; rfl, HX⟩
          case measure => first | (simp [intOf]; done) | (simp [intOf]; omega)
        · go_wp2_with (fail)
          go_roundw
          case rel => exact ⟨k + 1, no + 1, np + 1, by omega, by go_num, by go_num, by go_num, by rw [S0.out, HNO2.out]; rfl, by rw [S3.out, HNP2.out]; rfl, HX⟩
          case measure => first | (simp [intOf]; done) | (simp [intOf]; omega)
      · have i2 : decide ((k:Int) < (s.units.length:Int)) = false := decide_eq_false (by omega)
        obtain rfl : k = s.units.length := by omega
        have e1 := HNO2.out
        have e2 := HNP2.out
        rw [List.take_length, ← HNO.out] at e1
        rw [List.take_length, ← HNP.out] at e2
        have E1 := Lib.hid e1
        have E2 := Lib.hid e2
        clear e1 e2
        go_wp2_with (fail)
        refine bodyPost_ret (v := .tuple #[.int .i64 no, .int .i64 np]) (by simp [results, Tryz.results78, go_sem]) rfl ?_
        exact ⟨by rw [← E1.out, ← E2.out], X1.out.tr HX.out⟩

theorem any_take {f : UnitD → Bool} {us : List UnitD} (h : ∀ j (h : j < us.length), f us[j] = false) : us.any f = false := by
  rw [List.any_eq_false]
  intro u hu
  obtain ⟨j, hj, rfl⟩ := List.mem_iff_getElem.1 hu
  simp [h j hj]
theorem any_at {f : UnitD → Bool} {us : List UnitD} {j : Nat} (hj : j < us.length) (h : f us[j] = true) : us.any f = true :=
  List.any_eq_true.2 ⟨_, List.getElem_mem hj, h⟩

set_option maxRecDepth 100000 in
set_option maxHeartbeats 2000000 in
theorem rSafe_any (s : StD) (vu : Value) (w : World) (hu : UnIn w vu s.units) (hl : s.units.length ≤ 1000000) :
    Calls Tryz.prog 51 #[sV vu s] w fun e w' => e = .returned (.bool (safeR s)) ∧ Ext w w' := by
  have hcn := fun w1 (k : Ext w w1) => rCount_any s vu w1 (hu.ext k) hl
  obtain ⟨a, c, rfl, Hu⟩ := hu.form
  clear hu
  obtain ⟨no, hno⟩ : ∃ n, nOpen s = n := ⟨_, rfl⟩
  obtain ⟨np, hnp⟩ : ∃ n, nPr s = n := ⟨_, rfl⟩
  obtain ⟨bt, hbt⟩ : ∃ b, (s.units.any fun u => u.pr && !u.th) = b := ⟨_, rfl⟩
  have hr : safeR s = (!bt && (if s.drive = 0 then np == 0 else if s.drive = 1 then no == 0 else no == 0 && decide (0 < np))) := by
    unfold safeR; rw [hbt, hno, hnp]
  rw [hno, hnp] at hcn
  unfold sV at *
  have HR := Lib.hid hr
  have HBT := Lib.hid hbt
  have HL := Lib.hid hl
  have HCN := Lib.hid hcn
  clear hr hbt hl hcn
  clear hno hnp
  go_enter Tryz.func51, Tryz.ntmps51
  go_upto_region 2 with (first
    | (with_reducible refine wpList_boxA (t := 27) (cs := #[.int .i64 s.drive, .bool s.folder, .slice a s.units.length c, .int .i64 s.fresh]) rfl rfl rfl ?_
       rintro sb w1 hx1 hx2 hx3
       have c1 := hx1.cell
       have SB := Lib.hid hx1
       have X1 := Lib.hid hx2
       clear hx1 hx2
       clear hx3)
    | (have hgd := HCN.out
       go_at_call 78
       refine (hgd _ X1.out).mono ?_
       rintro e w2 ⟨rfl, hx3⟩
       have sb2 := SB.out.ext hx3
       have x2 := X1.out.tr hx3
       clear c1 SB X1 hgd hx3 HCN
       have SB := Lib.hid sb2
       have X1 := Lib.hid x2
       clear sb2 x2))
  go_wp2
  go_loopw [5] (fun t5 wr => ∃ k : Nat, k ≤ s.units.length ∧ t5 = .int .i64 k ∧ Hid (∀ j (h : j < s.units.length), j < k → (s.units[j].pr && !s.units[j].th) = false) ∧ Hid (Ext w2 wr)) (fun t5 _ => s.units.length - (intOf t5).toNat)
  case atStart => exact ⟨0, by omega, rfl, (fun j _ h => absurd h (Nat.not_lt_zero _)), Below.refl _ _⟩
  case round =>
    obtain ⟨k, hk, rfl, HR1, HX⟩ := hrel
    have d := (SB.out.ext HX.out).cell
    have hkb : k ≤ 1000000 := Nat.le_trans hk HL.out
    by_cases hlt : k < s.units.length
    · obtain ⟨b, o, rfl, hc⟩ := UnIn.cells (Hu.out.ext (X1.out.tr HX.out)) (by omega)
      obtain ⟨_, d1, _, d3, _⟩ := hc k hlt
      have hbad : (s.units[k].pr && !s.units[k].th) = true → safeR s = false := fun h => by
        have : bt = true := by rw [← HBT.out]; exact any_at hlt h
        rw [HR.out, this]; rfl
      have hr2 : (s.units[k].pr && !s.units[k].th) = false → ∀ j (h : j < s.units.length), j < k + 1 → (s.units[j].pr && !s.units[j].th) = false := fun h j hj hjk => by
        rcases Nat.lt_or_ge j k with h1 | h1
        · exact HR1.out j hj h1
        · obtain rfl : j = k := by omega
          exact h
      obtain ⟨x1, hx1⟩ : ∃ x, s.units[k].th = x := ⟨_, rfl⟩
      obtain ⟨x3, hx3⟩ : ∃ x, s.units[k].pr = x := ⟨_, rfl⟩
      rw [hx1] at d1 hbad hr2
      rw [hx3] at d3 hbad hr2
      have i1 : (0:Int) ≤ (k:Int) := by omega
      have i2 : (k:Int) < (s.units.length:Int) := by omega
      have HB := Lib.hid hbad
      have HR2 := Lib.hid hr2
      clear hbad hr2
      clear hx1 hx3 hc
      cases x3
      · go_wp2_with (fail)
        go_roundw
        case rel => exact ⟨k + 1, by omega, by go_num, HR2.out (by simp), HX⟩
        case measure => first | (simp [intOf]; done) | (simp [intOf]; omega)
      · cases x1
        · go_wp2_with (fail)
          go_ret
          exact ⟨ret_bool (by rw [HB.out rfl]), X1.out.tr HX.out⟩
        · go_wp2_with (fail)
          go_roundw
          case rel => exact ⟨k + 1, by omega, by go_num, HR2.out rfl, HX⟩
          case measure => first | (simp [intOf]; done) | (simp [intOf]; omega)
    · have i2 : decide ((k:Int) < (s.units.length:Int)) = false := decide_eq_false (by omega)
      obtain rfl : k = s.units.length := by omega
      have hb0 : bt = false := by rw [← HBT.out]; exact any_take fun j h => HR1.out j h h
      have hr0 := HR.out
      rw [hb0] at hr0
      have HR0 := Lib.hid hr0
      clear hr0
      clear hb0
      by_cases h0 : s.drive = 0
      · have q0 : (s.drive == 0) = true := by simp [h0]
        go_wp2_with (fail)
        go_ret
        exact ⟨ret_bool (by rw [HR0.out, if_pos h0]; rw [Bool.eq_iff_iff]; simp), X1.out.tr HX.out⟩
      · have q0 : (s.drive == 0) = false := by simp [h0]
        by_cases h1 : s.drive = 1
        · have q1 : (s.drive == 1) = true := by simp [h1]
          go_wp2_with (fail)
          go_ret
          exact ⟨ret_bool (by rw [HR0.out, if_neg h0, if_pos h1]; rw [Bool.eq_iff_iff]; simp), X1.out.tr HX.out⟩
        · have q1 : (s.drive == 1) = false := by simp [h1]
          by_cases h2 : no = 0
          · have q2 : ((no:Int) == 0) = true := by simp [h2]
            by_cases h3 : 0 < np
            · have i3 : (0:Int) < (np:Int) := by omega
              go_wp2_with (fail)
              go_ret
              exact ⟨ret_bool (by rw [HR0.out, if_neg h0, if_neg h1]; simp; omega), X1.out.tr HX.out⟩
            · have i3 : ¬ (0:Int) < (np:Int) := by omega
              go_wp2_with (fail)
              go_ret
              exact ⟨ret_bool (by rw [HR0.out, if_neg h0, if_neg h1]; simp; omega), X1.out.tr HX.out⟩
          · have q2 : ((no:Int) == 0) = false := by simp [h2]
            go_wp2_with (fail)
            go_ret
            exact ⟨ret_bool (by rw [HR0.out, if_neg h0, if_neg h1]; simp; omega), X1.out.tr HX.out⟩

set_option maxRecDepth 100000 in
set_option maxHeartbeats 2000000 in
theorem rStarted_any (p : PressD) (s : StD) (vj vu : Value) (w : World) (hj : Truths w vj p.jam) (hu : UnIn w vu s.units) (hl : s.units.length ≤ 1000000) :
    Calls Tryz.prog 46 #[pV vj p, sV vu s] w fun e w' => e = .returned (.int .i64 (stErr p s)) ∧ Ext w w' := by
  have hc := fun w1 (k : Ext w w1) => rCheck_any p vj w1 (Sl.ext hj k)
  have hsh := fun w1 (k : Ext w w1) => rShaped_any p s vj vu w1 (Sl.ext hj k) (hu.ext k)
  have hsf := fun w1 (k : Ext w w1) => rSafe_any s vu w1 (hu.ext k) hl
  obtain ⟨a, c, rfl, Hu⟩ := hu.form
  obtain ⟨_, aj, cj, hvj, _⟩ := id hj
  rw [List.length_map] at hvj
  subst hvj
  clear hu hl
  unfold pV sV at *
  obtain ⟨e1, he1⟩ : ∃ e, pErr p = e := ⟨_, rfl⟩
  obtain ⟨b1, hb1⟩ : ∃ b, shapedD p s = b := ⟨_, rfl⟩
  obtain ⟨b2, hb2⟩ : ∃ b, safeR s = b := ⟨_, rfl⟩
  have hst : stErr p s = if e1 ≠ 0 then e1 else if b1 && b2 then 0 else 9 := by
    unfold stErr
    rw [he1, hb1]
    cases b1
    · simp
    · have h1 := (shaped_nums hb1).1
      rw [← safe_eq s h1, hb2]
  rw [he1] at hc
  rw [hb1] at hsh
  rw [hb2] at hsf
  have HST := Lib.hid hst
  have HC := Lib.hid hc
  have HSH := Lib.hid hsh
  have HSF := Lib.hid hsf
  clear hst hc hsh hsf
  clear he1 hb1 hb2
  go_enter Tryz.func46, Tryz.ntmps46
  go_upto_region 2 with (first
    | (with_reducible refine wpList_boxA (t := 24) (cs := #[.slice aj p.jam.length cj, .int .i64 p.warm, .int .i64 p.tail, .int .i64 p.dirt]) rfl rfl rfl ?_
       rintro xb w1 hx1 hx2 hx3
       have c1 := hx1.cell
       have XB := Lib.hid hx1
       have X1 := Lib.hid hx2
       clear hx1 hx2
       clear hx3)
    | (with_reducible refine wpList_boxA (t := 27) (cs := #[.int .i64 s.drive, .bool s.folder, .slice a s.units.length c, .int .i64 s.fresh]) rfl rfl rfl ?_
       rintro sb w2 hy1 hy2 hy3
       have c2 := (XB.out.ext hy2).cell
       have xb2 := XB.out.ext hy2
       have x2 := X1.out.tr hy2
       have c3 := hy1.cell
       clear X1 c1 XB
       have SB := Lib.hid hy1
       have X1 := Lib.hid x2
       have XB := Lib.hid xb2
       clear hy1 x2 xb2
       clear hy3 hy2)
    | (have hgd := HC.out
       go_at_call 56
       refine (hgd _ X1.out).mono ?_
       rintro e w3 ⟨rfl, hx3⟩
       have d2 := (XB.out.ext hx3).cell
       have d3 := (SB.out.ext hx3).cell
       have xb2 := XB.out.ext hx3
       have sb2 := SB.out.ext hx3
       have x2 := X1.out.tr hx3
       clear c2 c3 XB SB X1 hgd hx3
       have c2 := d2
       have c3 := d3
       have XB := Lib.hid xb2
       have SB := Lib.hid sb2
       have X1 := Lib.hid x2
       clear xb2 sb2 x2
       clear d2 d3))
  by_cases h1 : e1 = 0
  · subst h1
    cases b1
    · go_wp2_with (first
        | (have hgd := HSH.out
           go_at_call 76
           refine (hgd _ X1.out).mono ?_
           rintro e w3 ⟨rfl, hx3⟩
           have d3 := (SB.out.ext hx3).cell
           have x2 := X1.out.tr hx3
           clear c2 c3 XB SB X1 hgd hx3 HSH
           have c3 := d3
           have X1 := Lib.hid x2
           clear x2
           clear d3)
        | (have hgd := HSF.out
           go_at_call 51
           refine (hgd _ X1.out).mono ?_
           rintro e w3 ⟨rfl, hx3⟩
           have x2 := X1.out.tr hx3
           clear X1 hgd hx3 HSF
           have X1 := Lib.hid x2
           clear x2)
      )
      go_ret
      exact ⟨ret_int (by rw [HST.out]; rfl), X1.out⟩
    · cases b2
      · go_wp2_with (first
          | (have hgd := HSH.out
             go_at_call 76
             refine (hgd _ X1.out).mono ?_
             rintro e w3 ⟨rfl, hx3⟩
             have d3 := (SB.out.ext hx3).cell
             have x2 := X1.out.tr hx3
             clear c2 c3 XB SB X1 hgd hx3 HSH
             have c3 := d3
             have X1 := Lib.hid x2
             clear x2
             clear d3)
          | (have hgd := HSF.out
             go_at_call 51
             refine (hgd _ X1.out).mono ?_
             rintro e w3 ⟨rfl, hx3⟩
             have x2 := X1.out.tr hx3
             clear X1 hgd hx3 HSF
             have X1 := Lib.hid x2
             clear x2)
        )
        go_ret
        exact ⟨ret_int (by rw [HST.out]; rfl), X1.out⟩
      · go_wp2_with (first
          | (have hgd := HSH.out
             go_at_call 76
             refine (hgd _ X1.out).mono ?_
             rintro e w3 ⟨rfl, hx3⟩
             have d3 := (SB.out.ext hx3).cell
             have x2 := X1.out.tr hx3
             clear c2 c3 XB SB X1 hgd hx3 HSH
             have c3 := d3
             have X1 := Lib.hid x2
             clear x2
             clear d3)
          | (have hgd := HSF.out
             go_at_call 51
             refine (hgd _ X1.out).mono ?_
             rintro e w3 ⟨rfl, hx3⟩
             have x2 := X1.out.tr hx3
             clear X1 hgd hx3 HSF
             have X1 := Lib.hid x2
             clear x2)
        )
        go_ret
        exact ⟨ret_int (by rw [HST.out]; rfl), X1.out⟩
  · have q1 : (e1 == 0) = false := by simp [h1]
    go_wp2_with (fail)
    go_ret
    exact ⟨ret_int (by rw [HST.out, if_pos h1]), X1.out⟩
end Go.Proofs.YtojobdffnnibaaaGreat
