import Derived.Test.YtekplfbfkfiabaaBkRules
/- The reference's Loss, Check, last, balance. -/
namespace Go.Proofs.Ytekplfbfkfiabaa
open Go.RowKit
set_option linter.unusedVariables false
set_option linter.unusedSimpArgs false

set_option maxHeartbeats 1000000 in
theorem rLoss_any (l : List AccD) (va : Value) (g : Int) (w : World) (ha : AccIn w va l) :
    Calls Try.prog 76 #[va, .int .i64 g] w fun e w' => e = .returned (.int .i64 (lossI l g)) ∧ ∃ n, w' = w.drewN n := by
  have hx := ha.len
  obtain ⟨a, c, rfl, Ha⟩ := ha.form
  clear ha
  go_enter Try.func76, Try.ntmps76
  go_wp2
  go_loopw [5] (fun t wr => ∃ k : Nat, k ≤ l.length ∧ t = .int .i64 k ∧ Hid (lossI l g = fIdx (lossP g) (l.drop k) k) ∧ ∃ n, wr = w.drewN n) (fun t _ => l.length - (intOf t).toNat)
  case atStart => exact ⟨0, Nat.zero_le _, rfl, rfl, 0, rfl⟩
  case round =>
    obtain ⟨k, hk, rfl, HR, n, rfl⟩ := hrel
    by_cases hlt : k < l.length
    · obtain ⟨b1, o1, rfl, hc1⟩ := Ha.out.cells (by omega)
      have c1 := (hc1 k hlt).1
      have c2 := (hc1 k hlt).2
      clear hc1
      have i1 : (0:Int) ≤ (k:Int) := by omega
      have i2 : (k:Int) < (l.length:Int) := by omega
      have hd := HR.out
      rw [fIdx_drop _ l k hlt] at hd
      unfold lossP at hd
      generalize l[k].good = y at *
      generalize l[k].stock = s at *
      by_cases hg : y = g
      · subst hg
        cases s
        · have HE := Lib.hid (hd.trans (if_pos (by simp)))
          clear hd
          go_wp2
          go_ret
          exact ⟨ret_int HE.out.symm, _, rfl⟩
        · have HE := Lib.hid (hd.trans (if_neg (by simp)))
          clear hd
          go_wp2
          go_roundw
          case rel => exact ⟨k+1, by omega, by go_num, HE, _, rfl⟩
          case measure => simp [intOf]; omega
      · have HE := Lib.hid (hd.trans (if_neg (by simp [hg])))
        have hg2 : (y == g) = false := by simp [hg]
        clear hd hg
        go_wp2
        go_roundw
        case rel => exact ⟨k+1, by omega, by go_num, HE, _, rfl⟩
        case measure => simp [intOf]; omega
    · have hd := HR.out
      rw [fIdx_end _ l k (by omega)] at hd
      have HE := Lib.hid hd
      clear hd
      go_wp2
      go_ret
      exact ⟨ret_int HE.out.symm, _, rfl⟩

/-- A ledger of the reference, by value. -/
def rLed (d : LedD) (va ve : Value) : Value := .agg #[.int .u64 d.key, va, ve, .int .i64 d.closed]
theorem rLast_any (d : LedD) (va ve : Value) (w : World) (hs : SigIn w ve d.ents) (hl : d.ents.length ≤ 5000) :
    Calls Try.prog 77 #[rLed d va ve] w fun e w' => e = .returned (.int .i64 d.last) ∧ Ext w w' := by
  obtain ⟨a, c, rfl, HS⟩ := hs.form
  clear hs
  unfold rLed
  rcases Nat.eq_zero_or_pos d.ents.length with h0 | h0
  · have hn := last_nil h0
    rw [h0, hn]
    clear HS h0 hn hl
    go_enter Try.func77, Try.ntmps77
    go_wp2_with (with_reducible refine wpList_boxA (t := 81) rfl rfl rfl ?_
                 rintro eb w1 hb1 hx1 hl1
                 have b2 := hb1.cell 2
                 have HX := Lib.hid hx1
                 clear hx1
                 clear hb1 hl1)
    go_ret
    exact ⟨rfl, HX.out⟩
  · obtain ⟨k, hk⟩ : ∃ k, d.ents.length = k + 1 := ⟨d.ents.length - 1, by omega⟩
    obtain ⟨b, o, rfl, hc⟩ := HS.out.cells h0
    have c3 := (hc k (by omega)).2.2.2.1
    have hn := last_get hk
    rw [hn]
    generalize (d.ents[k]'(by omega)).e.day = dy at *
    rw [hk]
    rw [hk] at hl
    have j1 : (0:Int) ≤ (k:Int) := by omega
    have j2 : (k:Int) < ((k + 1 : Nat):Int) := by omega
    clear HS hk h0 hn hc
    go_enter Try.func77, Try.ntmps77
    go_wp2_with (with_reducible refine wpList_boxA (t := 81) rfl rfl rfl ?_
                 rintro eb w1 hb1 hx1 hl1
                 have b2 := hb1.cell 2
                 replace c3 := hx1.cellSome c3
                 have HX := Lib.hid hx1
                 clear hx1
                 clear hb1 hl1)
    go_ret
    exact ⟨rfl, HX.out⟩
end Go.Proofs.Ytekplfbfkfiabaa

/- The reference's Check. -/
namespace Go.Proofs.Ytekplfbfkfiabaa
open Go.RowKit
set_option linter.unusedVariables false
set_option linter.unusedSimpArgs false

theorem any_take {α : Type} (p : α → Bool) (l : List α) (k : Nat) (hk : k < l.length) : (l.take (k + 1)).any p = ((l.take k).any p || p l[k]) := by
  rw [List.take_succ_eq_append_getElem hk, List.any_append]; simp

set_option maxRecDepth 100000 in
set_option maxHeartbeats 2000000 in
theorem rCheck_any (l : List AccD) (va : Value) (w : World) (ha : AccIn w va l) :
    Calls Try.prog 42 #[va] w fun e w' => e = .returned (.int .i64 (checkE l)) ∧ ∃ n, w' = w.drewN n := by
  have hl := ha.len
  obtain ⟨a, c, rfl, HS⟩ := ha.form
  clear ha
  by_cases h1 : 1 ≤ l.length ∧ l.length ≤ 40
  · have HE := Lib.hid (show checkE l = if l.any (badP l) then 140 else 0 by unfold checkE; rw [if_pos h1])
    obtain ⟨h1a, h1b⟩ := h1
    go_enter Try.func42, Try.ntmps42
    go_wp2
    go_loopw [3] (fun t wr => ∃ k : Nat, k ≤ l.length ∧ t = .int .i64 k ∧ Hid ((l.take k).any (badP l) = false) ∧ ∃ n, wr = w.drewN n) (fun t _ => l.length - (intOf t).toNat)
    case atStart => exact ⟨0, Nat.zero_le _, rfl, rfl, 0, rfl⟩
    case round =>
      obtain ⟨k, hk, rfl, HR, n, rfl⟩ := hrel
      by_cases hlt : k < l.length
      · have HS2 := Lib.hid (HS.out.ext (Ext.of_drewN w n))
        obtain ⟨b, o, rfl, hc⟩ := HS.out.cells (by omega)
        obtain ⟨e0, e1⟩ := hc k hlt
        have hat := any_take (badP l) l k hlt
        rw [HR.out, Bool.false_or] at hat
        have hbad : badP l l[k] = true → l.any (badP l) = true := fun h => List.any_eq_true.2 ⟨_, List.getElem_mem hlt, h⟩
        have HB : Hid (badP l l[k] = (!nIn l[k].good 1 4 || (l[k].stock && decide (lossI l l[k].good < 0)))) := rfl
        generalize l[k] = x at *
        obtain ⟨y, s⟩ := x
        dsimp only at e0 e1 HB
        have j1 : (0:Int) ≤ (k:Int) := by omega
        have j2 : (k:Int) < (l.length:Int) := by omega
        have HAT := Lib.hid hat
        have HBA := Lib.hid hbad
        clear hat hbad
        clear hc
        by_cases hn : 1 ≤ y ∧ y ≤ 4
        · have hn2 := (nIn_iff y 1 4).2 hn
          obtain ⟨hn3, hn4⟩ := hn
          have HN := Lib.hid hn2
          clear hn2
          cases s
          · have HB2 := Lib.hid (show badP l ⟨y, false⟩ = false by rw [HB.out, HN.out]; rfl)
            go_wp2
            go_roundw
            case rel => exact ⟨k + 1, by omega, by go_num, Lib.hid (by rw [HAT.out]; exact HB2.out), n, rfl⟩
            case measure => simp [intOf]; omega
          · obtain ⟨lo, hlo⟩ : ∃ z, z = lossI l y := ⟨_, rfl⟩
            have HLO := Lib.hid hlo
            clear hlo
            by_cases h0 : lo < 0
            · have HB2 := Lib.hid (show badP l ⟨y, true⟩ = true by rw [HB.out, HN.out, ← HLO.out, decide_eq_true h0]; rfl)
              go_wp2_with (go_at_call 76
                           refine (rLoss_any l _ y _ HS2.out).mono ?_
                           rintro e w5 ⟨rfl, nn, hw5⟩
                           rw [← HLO.out]
                           have HW5 := Lib.hid hw5
                           clear hw5)
              go_ret
              exact ⟨ret_int (by rw [HE.out, if_pos (HBA.out HB2.out)]), n + nn, by rw [HW5.out, World.drewN_drewN]⟩
            · have HB2 := Lib.hid (show badP l ⟨y, true⟩ = false by rw [HB.out, HN.out, ← HLO.out, decide_eq_false h0]; rfl)
              go_wp2_with (go_at_call 76
                           refine (rLoss_any l _ y _ HS2.out).mono ?_
                           rintro e w5 ⟨rfl, nn, hw5⟩
                           rw [← HLO.out]
                           have HW5 := Lib.hid hw5
                           clear hw5)
              go_roundw
              case rel => exact ⟨k + 1, by omega, by go_num, Lib.hid (by rw [HAT.out]; exact HB2.out), n + nn, by rw [HW5.out, World.drewN_drewN]⟩
              case measure => simp [intOf]; omega
        · have hn2 : nIn y 1 4 = false := by rw [Bool.eq_false_iff]; intro h; exact hn ((nIn_iff y 1 4).1 h)
          have HB2 := Lib.hid (show badP l ⟨y, s⟩ = true by rw [HB.out, hn2]; rfl)
          clear hn2
          by_cases hy : y < 1
          · clear hn
            go_wp2
            go_ret
            exact ⟨ret_int (by rw [HE.out, if_pos (HBA.out HB2.out)]), n, rfl⟩
          · have hy2 : 4 < y := by omega
            clear hn
            go_wp2
            go_ret
            exact ⟨ret_int (by rw [HE.out, if_pos (HBA.out HB2.out)]), n, rfl⟩
      · obtain rfl : k = l.length := by omega
        have hr := HR.out
        rw [List.take_length] at hr
        have HR2 := Lib.hid hr
        clear hlt hr
        go_wp2
        go_ret
        exact ⟨ret_int (by rw [HE.out, HR2.out]; rfl), n, rfl⟩
  · have HE := Lib.hid (show checkE l = 2 by unfold checkE; rw [if_neg h1])
    by_cases h2 : l.length < 1
    · clear h1
      go_enter Try.func42, Try.ntmps42
      go_wp2
      go_ret
      exact ⟨ret_int HE.out.symm, 0, rfl⟩
    · have h3 : 40 < l.length := by omega
      clear h1
      go_enter Try.func42, Try.ntmps42
      go_wp2
      go_ret
      exact ⟨ret_int HE.out.symm, 0, rfl⟩
end Go.Proofs.Ytekplfbfkfiabaa

/- The reference's New. -/
namespace Go.Proofs.Ytekplfbfkfiabaa
open Go.RowKit
set_option linter.unusedVariables false
set_option linter.unusedSimpArgs false

set_option maxRecDepth 100000 in
set_option maxHeartbeats 2000000 in
theorem rNew_any (key : Int) (l : List AccD) (va : Value) (w : World) (ha : AccIn w va l) (h0 : checkE l = 0) :
    Calls Try.prog 41 #[.int .u64 key, va] w fun e w' => e = .returned (.tuple #[rLed (newD key l) va (.slice none 0 0), .int .i64 0]) ∧ Ext w w' := by
  obtain ⟨a, c, rfl, HS⟩ := ha.form
  have HC := Lib.hid fun w1 (k : Ext w w1) => rCheck_any l _ w1 (ha.ext k)
  have H0 := Lib.hid h0
  clear h0
  clear ha
  unfold rLed
  go_enter Try.func41, Try.ntmps41
  go_wp2_with (first
    | (with_reducible refine wpList_allocA (t := 81) rfl rfl Try.zeroValue81 ?_
       rintro pb w3 hb3 hx3 hl3
       have PB := Lib.hid hb3
       have X := Lib.hid hx3
       have LP := Lib.hid hl3
       clear hb3 hx3 hl3)
    | (go_at_call 42
       refine (HC.out _ X.out).mono ?_
       rintro e w4 ⟨rfl, nn, hw4⟩
       rw [H0.out]
       have hx4 : Ext w3 w4 := by rw [hw4]; exact Ext.of_drewN _ _
       clear hw4
       replace PB := Lib.hid (PB.out.ext hx4)
       replace X := Lib.hid (X.out.ext hx4)
       clear hx4)
    | (with_reducible refine wpList_storeK (cells := #[.int .u64 key, .slice a l.length c, .slice none 0 0, .int .i64 (-1)]) rfl rfl PB.out ?_ ?_ ?_ ?_ ?_ ?_
       · rfl
       · rfl
       · kernel_rfl
       · rfl
       · simp [Value.oneCell']
       rintro w5 hb5 ho5
       have hx5 := X.out.then_only ho5 (fun k (e : k = pb) => by rw [e]; exact LP.out)
       have k0 := hb5.cell
       clear X PB
       have X := Lib.hid hx5
       clear hx5
       clear hb5 ho5))
  refine bodyPost_ret (v := .tuple #[.agg #[.int .u64 key, .slice a l.length c, .slice none 0 0, .int .i64 (-1)], .int .i64 0]) (by simp [results, Try.results41, go_sem, k0]) rfl ⟨rfl, X.out⟩
end Go.Proofs.Ytekplfbfkfiabaa

/- The reference's balance. -/
namespace Go.Proofs.Ytekplfbfkfiabaa
open Go.RowKit
set_option linter.unusedVariables false
set_option linter.unusedSimpArgs false

set_option maxRecDepth 100000 in
set_option maxHeartbeats 2000000 in
theorem rBalance_any (d : LedD) (va ve : Value) (i day : Int) (w : World) (hs : SigIn w ve d.ents) (ok : LedOk d) :
    Calls Try.prog 78 #[rLed d va ve, .int .i64 i, .int .i64 day] w fun e w' => e = .returned (.int .i64 (balU i day d.ents)) ∧ Ext w w' := by
  have hl := hs.len
  obtain ⟨a, c, rfl, HS⟩ := hs.form
  have hbu := fun k => ok.balU i day k
  have ham := ok.amt
  have HBU := Lib.hid hbu
  have HAM := Lib.hid ham
  clear hbu ham
  clear hs ok
  unfold rLed
  go_enter Try.func78, Try.ntmps78
  go_wp2_with (with_reducible refine wpList_boxA (t := 81) rfl rfl rfl ?_
               rintro lb w1 hb1 hx1 hl1
               have LB := Lib.hid hb1
               have X := Lib.hid hx1
               clear hb1 hx1
               clear hl1)
  go_loopw [7, 8] (fun v t wr => ∃ k : Nat, k ≤ d.ents.length ∧ t = .int .i64 k ∧ Hid (v = .int .i64 (balU i day (d.ents.take k))) ∧ Hid (Ext w1 wr)) (fun _ t _ => d.ents.length - (intOf t).toNat)
  case atStart => exact ⟨0, Nat.zero_le _, rfl, rfl, Below.refl _ _⟩
  case round =>
    obtain ⟨k, hk, rfl, HV, HX⟩ := hrel
    have hv := HV.out
    have c2 := (LB.out.ext HX.out).cell 2
    by_cases hlt : k < d.ents.length
    · obtain ⟨b, o, rfl, hc⟩ := HS.out.cells (by omega)
      have hxr := X.out.tr HX.out
      have e0 := hxr.cellSome (hc k hlt).1
      have e1 := hxr.cellSome (hc k hlt).2.1
      have e2 := hxr.cellSome (hc k hlt).2.2.1
      have e3 := hxr.cellSome (hc k hlt).2.2.2.1
      have hbt := balU_take i day d.ents k hlt
      have ha := HAM.out d.ents[k] (List.getElem_mem hlt)
      have hb0 := HBU.out k
      obtain ⟨n1, hn1⟩ : ∃ n, n = balU i day (d.ents.take (k + 1)) := ⟨_, rfl⟩
      rw [← hn1] at hbt
      have HN1 := Lib.hid hn1
      clear hn1
      generalize balU i day (d.ents.take k) = n0 at *
      subst hv
      have j1 : (0:Int) ≤ (k:Int) := by omega
      have j2 : (k:Int) < (d.ents.length:Int) := by omega
      generalize d.ents[k] = x at *
      obtain ⟨⟨xf, xt, xa, xd⟩, xs⟩ := x
      unfold mv at hbt
      dsimp only at hbt ha e0 e1 e2 e3
      obtain ⟨ha1, ha2⟩ := ha
      obtain ⟨hb1, hb2⟩ := hb0
      clear hc hxr HV
      by_cases hd : xd ≤ day
      · rw [if_pos hd] at hbt
        by_cases ht : xt = i
        · rw [if_pos ht] at hbt
          have ht2 : (xt == i) = true := by simp [ht]
          clear ht
          by_cases hf : xf = i
          · rw [if_pos hf] at hbt
            have hf2 : (xf == i) = true := by simp [hf]
            clear hf
            have HN := Lib.hid (show n0 + xa - xa = n1 by omega)
            clear hbt
            go_wp2_with (first
              | (with_reducible refine wpList_allocA (t := 57) rfl rfl Try.zeroValue57 ?_
                 rintro pb w3 hb3 hx3 hl3
                 replace e0 := hx3.cellSome e0
                 replace e1 := hx3.cellSome e1
                 replace e2 := hx3.cellSome e2
                 replace e3 := hx3.cellSome e3
                 replace c2 := hx3.cellSome c2
                 have lp : w1.heap.size ≤ pb := Nat.le_trans HX.out.size hl3
                 replace HX := Lib.hid (HX.out.ext hx3)
                 have PB := Lib.hid hb3
                 have LP := Lib.hid lp
                 clear hb3 lp
                 clear hx3 hl3)
              | (with_reducible refine wpList_storeK (cells := #[.int .i64 xf, .int .i64 xt, .int .i64 xa, .int .i64 xd]) rfl rfl PB.out ?_ ?_ ?_ ?_ ?_ ?_
                 · rfl
                 · rfl
                 · kernel_rfl
                 · rfl
                 · simp [Value.oneCell']
                 rintro w4 hb4 ho4
                 have hx4 := HX.out.then_only ho4 (fun k (e : k = pb) => by rw [e]; exact LP.out)
                 have p0 := hb4.cell 0
                 have p1 := hb4.cell 1
                 have p2 := hb4.cell 2
                 have p3 := hb4.cell 3
                 clear HX PB e0 e1 e2 e3 c2
                 have HX := Lib.hid hx4
                 clear hx4
                 clear hb4 ho4))
            go_roundw
            case rel => exact ⟨k + 1, by omega, by go_num, Lib.hid (congrArg (Value.int .i64) (by have h1 := HN.out; have h2 := HN1.out; omega)), HX.out⟩
            case measure => simp [intOf]; omega
          · rw [if_neg hf] at hbt
            have hf2 : (xf == i) = false := by simp [hf]
            have HN := Lib.hid (show n0 + xa = n1 by omega)
            clear hbt hf
            go_wp2_with (first
              | (with_reducible refine wpList_allocA (t := 57) rfl rfl Try.zeroValue57 ?_
                 rintro pb w3 hb3 hx3 hl3
                 replace e0 := hx3.cellSome e0
                 replace e1 := hx3.cellSome e1
                 replace e2 := hx3.cellSome e2
                 replace e3 := hx3.cellSome e3
                 replace c2 := hx3.cellSome c2
                 have lp : w1.heap.size ≤ pb := Nat.le_trans HX.out.size hl3
                 replace HX := Lib.hid (HX.out.ext hx3)
                 have PB := Lib.hid hb3
                 have LP := Lib.hid lp
                 clear hb3 lp
                 clear hx3 hl3)
              | (with_reducible refine wpList_storeK (cells := #[.int .i64 xf, .int .i64 xt, .int .i64 xa, .int .i64 xd]) rfl rfl PB.out ?_ ?_ ?_ ?_ ?_ ?_
                 · rfl
                 · rfl
                 · kernel_rfl
                 · rfl
                 · simp [Value.oneCell']
                 rintro w4 hb4 ho4
                 have hx4 := HX.out.then_only ho4 (fun k (e : k = pb) => by rw [e]; exact LP.out)
                 have p0 := hb4.cell 0
                 have p1 := hb4.cell 1
                 have p2 := hb4.cell 2
                 have p3 := hb4.cell 3
                 clear HX PB e0 e1 e2 e3 c2
                 have HX := Lib.hid hx4
                 clear hx4
                 clear hb4 ho4))
            go_roundw
            case rel => exact ⟨k + 1, by omega, by go_num, Lib.hid (congrArg (Value.int .i64) (by have h1 := HN.out; have h2 := HN1.out; omega)), HX.out⟩
            case measure => simp [intOf]; omega
        · rw [if_neg ht] at hbt
          have ht2 : (xt == i) = false := by simp [ht]
          clear ht
          by_cases hf : xf = i
          · rw [if_pos hf] at hbt
            have hf2 : (xf == i) = true := by simp [hf]
            clear hf
            have HN := Lib.hid (show n0 - xa = n1 by omega)
            clear hbt
            go_wp2_with (first
              | (with_reducible refine wpList_allocA (t := 57) rfl rfl Try.zeroValue57 ?_
                 rintro pb w3 hb3 hx3 hl3
                 replace e0 := hx3.cellSome e0
                 replace e1 := hx3.cellSome e1
                 replace e2 := hx3.cellSome e2
                 replace e3 := hx3.cellSome e3
                 replace c2 := hx3.cellSome c2
                 have lp : w1.heap.size ≤ pb := Nat.le_trans HX.out.size hl3
                 replace HX := Lib.hid (HX.out.ext hx3)
                 have PB := Lib.hid hb3
                 have LP := Lib.hid lp
                 clear hb3 lp
                 clear hx3 hl3)
              | (with_reducible refine wpList_storeK (cells := #[.int .i64 xf, .int .i64 xt, .int .i64 xa, .int .i64 xd]) rfl rfl PB.out ?_ ?_ ?_ ?_ ?_ ?_
                 · rfl
                 · rfl
                 · kernel_rfl
                 · rfl
                 · simp [Value.oneCell']
                 rintro w4 hb4 ho4
                 have hx4 := HX.out.then_only ho4 (fun k (e : k = pb) => by rw [e]; exact LP.out)
                 have p0 := hb4.cell 0
                 have p1 := hb4.cell 1
                 have p2 := hb4.cell 2
                 have p3 := hb4.cell 3
                 clear HX PB e0 e1 e2 e3 c2
                 have HX := Lib.hid hx4
                 clear hx4
                 clear hb4 ho4))
            go_roundw
            case rel => exact ⟨k + 1, by omega, by go_num, Lib.hid (congrArg (Value.int .i64) (by have h1 := HN.out; have h2 := HN1.out; omega)), HX.out⟩
            case measure => simp [intOf]; omega
          · rw [if_neg hf] at hbt
            have hf2 : (xf == i) = false := by simp [hf]
            have HN := Lib.hid (show n0 = n1 by omega)
            clear hbt hf
            go_wp2_with (first
              | (with_reducible refine wpList_allocA (t := 57) rfl rfl Try.zeroValue57 ?_
                 rintro pb w3 hb3 hx3 hl3
                 replace e0 := hx3.cellSome e0
                 replace e1 := hx3.cellSome e1
                 replace e2 := hx3.cellSome e2
                 replace e3 := hx3.cellSome e3
                 replace c2 := hx3.cellSome c2
                 have lp : w1.heap.size ≤ pb := Nat.le_trans HX.out.size hl3
                 replace HX := Lib.hid (HX.out.ext hx3)
                 have PB := Lib.hid hb3
                 have LP := Lib.hid lp
                 clear hb3 lp
                 clear hx3 hl3)
              | (with_reducible refine wpList_storeK (cells := #[.int .i64 xf, .int .i64 xt, .int .i64 xa, .int .i64 xd]) rfl rfl PB.out ?_ ?_ ?_ ?_ ?_ ?_
                 · rfl
                 · rfl
                 · kernel_rfl
                 · rfl
                 · simp [Value.oneCell']
                 rintro w4 hb4 ho4
                 have hx4 := HX.out.then_only ho4 (fun k (e : k = pb) => by rw [e]; exact LP.out)
                 have p0 := hb4.cell 0
                 have p1 := hb4.cell 1
                 have p2 := hb4.cell 2
                 have p3 := hb4.cell 3
                 clear HX PB e0 e1 e2 e3 c2
                 have HX := Lib.hid hx4
                 clear hx4
                 clear hb4 ho4))
            go_roundw
            case rel => exact ⟨k + 1, by omega, by go_num, Lib.hid (congrArg (Value.int .i64) (by have h1 := HN.out; have h2 := HN1.out; omega)), HX.out⟩
            case measure => simp [intOf]; omega
      · rw [if_neg hd] at hbt
        have hd2 : decide (xd ≤ day) = false := decide_eq_false hd
        have HN := Lib.hid (show n0 = n1 by omega)
        clear hbt hd
        go_wp2_with (first
          | (with_reducible refine wpList_allocA (t := 57) rfl rfl Try.zeroValue57 ?_
             rintro pb w3 hb3 hx3 hl3
             replace e0 := hx3.cellSome e0
             replace e1 := hx3.cellSome e1
             replace e2 := hx3.cellSome e2
             replace e3 := hx3.cellSome e3
             replace c2 := hx3.cellSome c2
             have lp : w1.heap.size ≤ pb := Nat.le_trans HX.out.size hl3
             replace HX := Lib.hid (HX.out.ext hx3)
             have PB := Lib.hid hb3
             have LP := Lib.hid lp
             clear hb3 lp
             clear hx3 hl3)
          | (with_reducible refine wpList_storeK (cells := #[.int .i64 xf, .int .i64 xt, .int .i64 xa, .int .i64 xd]) rfl rfl PB.out ?_ ?_ ?_ ?_ ?_ ?_
             · rfl
             · rfl
             · kernel_rfl
             · rfl
             · simp [Value.oneCell']
             rintro w4 hb4 ho4
             have hx4 := HX.out.then_only ho4 (fun k (e : k = pb) => by rw [e]; exact LP.out)
             have p0 := hb4.cell 0
             have p1 := hb4.cell 1
             have p2 := hb4.cell 2
             have p3 := hb4.cell 3
             clear HX PB e0 e1 e2 e3 c2
             have HX := Lib.hid hx4
             clear hx4
             clear hb4 ho4))
        go_roundw
        case rel => exact ⟨k + 1, by omega, by go_num, Lib.hid (congrArg (Value.int .i64) (by have h1 := HN.out; have h2 := HN1.out; omega)), HX.out⟩
        case measure => simp [intOf]; omega
    · obtain rfl : k = d.ents.length := by omega
      subst hv
      clear hlt
      go_wp2
      go_ret
      exact ⟨rfl, X.out.tr HX.out⟩
end Go.Proofs.Ytekplfbfkfiabaa
