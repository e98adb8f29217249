/- The reference's balance. -/
import Derived.Test.YtekplfbfkfiabaaBkRef
namespace Go.Proofs.Ytekplfbfkfiabaa
open Go.RowKit
set_option linter.unusedVariables false
set_option linter.unusedSimpArgs false

set_option maxRecDepth 100000 in
set_option maxHeartbeats 2000000 in
theorem rBalance_any (d : LedD) (va ve : Value) (i day : Int) (w : World) (hs : SigIn w ve d.ents) (ok : LedOk d) :
    Calls Try.prog 78 #[rLed d va ve, .int .i64 i, .int .i64 day] w fun e w' => e = .returned (.int .i64 (balU i day d.ents)) ∧ Ext w w' := by
  have hl := hs.len
  obtain ⟨a, c, rfl, HS⟩ := hs.form
  have hbu := fun k => ok.balU i day k
  have ham := ok.amt
  have HBU := Lib.hid hbu
  have HAM := Lib.hid ham
  clear hbu ham
  clear hs ok
  unfold rLed
  go_enter Try.func78, Try.ntmps78
  go_wp2_with (with_reducible refine wpList_boxA (t := 81) rfl rfl rfl ?_
               rintro lb w1 hb1 hx1 hl1
               have LB := Lib.hid hb1
               have X := Lib.hid hx1
               clear hb1 hx1
               clear hl1)
  go_loopw [7, 8] (fun v t wr => ∃ k : Nat, k ≤ d.ents.length ∧ t = .int .i64 k ∧ Hid (v = .int .i64 (balU i day (d.ents.take k))) ∧ Hid (Ext w1 wr)) (fun _ t _ => d.ents.length - (intOf t).toNat)
  case atStart => exact ⟨0, Nat.zero_le _, rfl, rfl, Below.refl _ _⟩
  case round =>
    obtain ⟨k, hk, rfl, HV, HX⟩ := hrel
    have hv := HV.out
    have c2 := (LB.out.ext HX.out).cell 2
    by_cases hlt : k < d.ents.length
    · obtain ⟨b, o, rfl, hc⟩ := HS.out.cells (by omega)
      have hxr := X.out.tr HX.out
      have e0 := hxr.cellSome (hc k hlt).1
      have e1 := hxr.cellSome (hc k hlt).2.1
      have e2 := hxr.cellSome (hc k hlt).2.2.1
      have e3 := hxr.cellSome (hc k hlt).2.2.2.1
      have hbt := balU_take i day d.ents k hlt
      have ha := HAM.out d.ents[k] (List.getElem_mem hlt)
      have hb0 := HBU.out k
      obtain ⟨n1, hn1⟩ : ∃ n, n = balU i day (d.ents.take (k + 1)) := ⟨_, rfl⟩
      rw [← hn1] at hbt
      have HN1 := Lib.hid hn1
      clear hn1
      generalize balU i day (d.ents.take k) = n0 at *
      subst hv
      have j1 : (0:Int) ≤ (k:Int) := by omega
      have j2 : (k:Int) < (d.ents.length:Int) := by omega
      generalize d.ents[k] = x at *
      obtain ⟨⟨xf, xt, xa, xd⟩, xs⟩ := x
      unfold mv at hbt
      dsimp only at hbt ha e0 e1 e2 e3
      obtain ⟨ha1, ha2⟩ := ha
      obtain ⟨hb1, hb2⟩ := hb0
      clear hc hxr HV
      by_cases hd : xd ≤ day
      · rw [if_pos hd] at hbt
        by_cases ht : xt = i
        · rw [if_pos ht] at hbt
          have ht2 : (xt == i) = true := by simp [ht]
          clear ht
          by_cases hf : xf = i
          · rw [if_pos hf] at hbt
            have hf2 : (xf == i) = true := by simp [hf]
            clear hf
            have HN := Lib.hid (show n0 + xa - xa = n1 by omega)
            clear hbt
            go_wp2_with (first
              | (with_reducible refine wpList_allocA (t := 57) rfl rfl Try.zeroValue57 ?_
                 rintro pb w3 hb3 hx3 hl3
                 replace e0 := hx3.cellSome e0
                 replace e1 := hx3.cellSome e1
                 replace e2 := hx3.cellSome e2
                 replace e3 := hx3.cellSome e3
                 replace c2 := hx3.cellSome c2
                 have lp : w1.heap.size ≤ pb := Nat.le_trans HX.out.size hl3
                 replace HX := Lib.hid (HX.out.ext hx3)
                 have PB := Lib.hid hb3
                 have LP := Lib.hid lp
                 clear hb3 lp
                 clear hx3 hl3)
              | (with_reducible refine wpList_storeK (cells := #[.int .i64 xf, .int .i64 xt, .int .i64 xa, .int .i64 xd]) rfl rfl PB.out ?_ ?_ ?_ ?_ ?_ ?_
                 · rfl
                 · rfl
                 · kernel_rfl
                 · rfl
                 · simp [Value.oneCell']
                 rintro w4 hb4 ho4
                 have hx4 := HX.out.then_only ho4 (fun k (e : k = pb) => by rw [e]; exact LP.out)
                 have p0 := hb4.cell 0
                 have p1 := hb4.cell 1
                 have p2 := hb4.cell 2
                 have p3 := hb4.cell 3
                 clear HX PB e0 e1 e2 e3 c2
                 have HX := Lib.hid hx4
                 clear hx4
                 clear hb4 ho4))
            go_roundw
            case rel => exact ⟨k + 1, by omega, by go_num, Lib.hid (congrArg (Value.int .i64) (by have h1 := HN.out; have h2 := HN1.out; omega)), HX.out⟩
            case measure => simp [intOf]; omega
          · rw [if_neg hf] at hbt
            have hf2 : (xf == i) = false := by simp [hf]
            have HN := Lib.hid (show n0 + xa = n1 by omega)
            clear hbt hf
            go_wp2_with (first
              | (with_reducible refine wpList_allocA (t := 57) rfl rfl Try.zeroValue57 ?_
                 rintro pb w3 hb3 hx3 hl3
                 replace e0 := hx3.cellSome e0
                 replace e1 := hx3.cellSome e1
                 replace e2 := hx3.cellSome e2
                 replace e3 := hx3.cellSome e3
                 replace c2 := hx3.cellSome c2
                 have lp : w1.heap.size ≤ pb := Nat.le_trans HX.out.size hl3
                 replace HX := Lib.hid (HX.out.ext hx3)
                 have PB := Lib.hid hb3
                 have LP := Lib.hid lp
                 clear hb3 lp
                 clear hx3 hl3)
              | (with_reducible refine wpList_storeK (cells := #[.int .i64 xf, .int .i64 xt, .int .i64 xa, .int .i64 xd]) rfl rfl PB.out ?_ ?_ ?_ ?_ ?_ ?_
                 · rfl
                 · rfl
                 · kernel_rfl
                 · rfl
                 · simp [Value.oneCell']
                 rintro w4 hb4 ho4
                 have hx4 := HX.out.then_only ho4 (fun k (e : k = pb) => by rw [e]; exact LP.out)
                 have p0 := hb4.cell 0
                 have p1 := hb4.cell 1
                 have p2 := hb4.cell 2
                 have p3 := hb4.cell 3
                 clear HX PB e0 e1 e2 e3 c2
                 have HX := Lib.hid hx4
                 clear hx4
                 clear hb4 ho4))
            go_roundw
            case rel => exact ⟨k + 1, by omega, by go_num, Lib.hid (congrArg (Value.int .i64) (by have h1 := HN.out; have h2 := HN1.out; omega)), HX.out⟩
            case measure => simp [intOf]; omega
        · rw [if_neg ht] at hbt
          have ht2 : (xt == i) = false := by simp [ht]
          clear ht
          by_cases hf : xf = i
          · rw [if_pos hf] at hbt
            have hf2 : (xf == i) = true := by simp [hf]
            clear hf
            have HN := Lib.hid (show n0 - xa = n1 by omega)
            clear hbt
            go_wp2_with (first
              | (with_reducible refine wpList_allocA (t := 57) rfl rfl Try.zeroValue57 ?_
                 rintro pb w3 hb3 hx3 hl3
                 replace e0 := hx3.cellSome e0
                 replace e1 := hx3.cellSome e1
                 replace e2 := hx3.cellSome e2
                 replace e3 := hx3.cellSome e3
                 replace c2 := hx3.cellSome c2
                 have lp : w1.heap.size ≤ pb := Nat.le_trans HX.out.size hl3
                 replace HX := Lib.hid (HX.out.ext hx3)
                 have PB := Lib.hid hb3
                 have LP := Lib.hid lp
                 clear hb3 lp
                 clear hx3 hl3)
              | (with_reducible refine wpList_storeK (cells := #[.int .i64 xf, .int .i64 xt, .int .i64 xa, .int .i64 xd]) rfl rfl PB.out ?_ ?_ ?_ ?_ ?_ ?_
                 · rfl
                 · rfl
                 · kernel_rfl
                 · rfl
                 · simp [Value.oneCell']
                 rintro w4 hb4 ho4
                 have hx4 := HX.out.then_only ho4 (fun k (e : k = pb) => by rw [e]; exact LP.out)
                 have p0 := hb4.cell 0
                 have p1 := hb4.cell 1
                 have p2 := hb4.cell 2
                 have p3 := hb4.cell 3
                 clear HX PB e0 e1 e2 e3 c2
                 have HX := Lib.hid hx4
                 clear hx4
                 clear hb4 ho4))
            go_roundw
            case rel => exact ⟨k + 1, by omega, by go_num, Lib.hid (congrArg (Value.int .i64) (by have h1 := HN.out; have h2 := HN1.out; omega)), HX.out⟩
            case measure => simp [intOf]; omega
          · rw [if_neg hf] at hbt
            have hf2 : (xf == i) = false := by simp [hf]
            have HN := Lib.hid (show n0 = n1 by omega)
            clear hbt hf
            go_wp2_with (first
              | (with_reducible refine wpList_allocA (t := 57) rfl rfl Try.zeroValue57 ?_
                 rintro pb w3 hb3 hx3 hl3
                 replace e0 := hx3.cellSome e0
                 replace e1 := hx3.cellSome e1
                 replace e2 := hx3.cellSome e2
                 replace e3 := hx3.cellSome e3
                 replace c2 := hx3.cellSome c2
                 have lp : w1.heap.size ≤ pb := Nat.le_trans HX.out.size hl3
                 replace HX := Lib.hid (HX.out.ext hx3)
                 have PB := Lib.hid hb3
                 have LP := Lib.hid lp
                 clear hb3 lp
                 clear hx3 hl3)
              | (with_reducible refine wpList_storeK (cells := #[.int .i64 xf, .int .i64 xt, .int .i64 xa, .int .i64 xd]) rfl rfl PB.out ?_ ?_ ?_ ?_ ?_ ?_
                 · rfl
                 · rfl
                 · kernel_rfl
                 · rfl
                 · simp [Value.oneCell']
                 rintro w4 hb4 ho4
                 have hx4 := HX.out.then_only ho4 (fun k (e : k = pb) => by rw [e]; exact LP.out)
                 have p0 := hb4.cell 0
                 have p1 := hb4.cell 1
                 have p2 := hb4.cell 2
                 have p3 := hb4.cell 3
                 clear HX PB e0 e1 e2 e3 c2
                 have HX := Lib.hid hx4
                 clear hx4
                 clear hb4 ho4))
            go_roundw
            case rel => exact ⟨k + 1, by omega, by go_num, Lib.hid (congrArg (Value.int .i64) (by have h1 := HN.out; have h2 := HN1.out; omega)), HX.out⟩
            case measure => simp [intOf]; omega
      · rw [if_neg hd] at hbt
        have hd2 : decide (xd ≤ day) = false := decide_eq_false hd
        have HN := Lib.hid (show n0 = n1 by omega)
        clear hbt hd
        go_wp2_with (first
          | (with_reducible refine wpList_allocA (t := 57) rfl rfl Try.zeroValue57 ?_
             rintro pb w3 hb3 hx3 hl3
             replace e0 := hx3.cellSome e0
             replace e1 := hx3.cellSome e1
             replace e2 := hx3.cellSome e2
             replace e3 := hx3.cellSome e3
             replace c2 := hx3.cellSome c2
             have lp : w1.heap.size ≤ pb := Nat.le_trans HX.out.size hl3
             replace HX := Lib.hid (HX.out.ext hx3)
             have PB := Lib.hid hb3
             have LP := Lib.hid lp
             clear hb3 lp
             clear hx3 hl3)
          | (with_reducible refine wpList_storeK (cells := #[.int .i64 xf, .int .i64 xt, .int .i64 xa, .int .i64 xd]) rfl rfl PB.out ?_ ?_ ?_ ?_ ?_ ?_
             · rfl
             · rfl
             · kernel_rfl
             · rfl
             · simp [Value.oneCell']
             rintro w4 hb4 ho4
             have hx4 := HX.out.then_only ho4 (fun k (e : k = pb) => by rw [e]; exact LP.out)
             have p0 := hb4.cell 0
             have p1 := hb4.cell 1
             have p2 := hb4.cell 2
             have p3 := hb4.cell 3
             clear HX PB e0 e1 e2 e3 c2
             have HX := Lib.hid hx4
             clear hx4
             clear hb4 ho4))
        go_roundw
        case rel => exact ⟨k + 1, by omega, by go_num, Lib.hid (congrArg (Value.int .i64) (by have h1 := HN.out; have h2 := HN1.out; omega)), HX.out⟩
        case measure => simp [intOf]; omega
    · obtain rfl : k = d.ents.length := by omega
      subst hv
      clear hlt
      go_wp2
      go_ret
      exact ⟨rfl, X.out.tr HX.out⟩
end Go.Proofs.Ytekplfbfkfiabaa
