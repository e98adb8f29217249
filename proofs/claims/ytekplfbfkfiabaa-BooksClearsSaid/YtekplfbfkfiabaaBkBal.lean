/- balance, Balance of the program. -/
import Derived.Test.YtekplfbfkfiabaaBkRules
namespace Go.Proofs.Ytekplfbfkfiabaa
open Go.RowKit
set_option linter.unusedVariables false
set_option linter.unusedSimpArgs false

theorem balU_app (i day : Int) (xs ys : List SigD) : balU i day (xs ++ ys) = balU i day xs + balU i day ys := by
  induction xs with
  | nil => simp [balU]
  | cons x xs ih => simp only [List.cons_append, balU, ih]; omega
theorem balU_break (i day : Int) {xs : List SigD} (h : DaysUp xs) (k : Nat) (hk : k < xs.length) (hd : day < xs[k].e.day) : balU i day (xs.take k) = balU i day xs := by
  have h1 := balU_app i day (xs.take k) (xs.drop k)
  rw [List.take_append_drop] at h1
  rw [h1, balU_late i day (xs.drop k) (fun y hy => Int.lt_of_lt_of_le hd (h.drop k hk y hy)), Int.add_zero]
set_option maxRecDepth 100000 in
set_option maxHeartbeats 2000000 in
theorem balance_any (B lb : Nat) (d : LedD) (m : LMem) (i day : Int) (w : World) (h : LSt w B lb d m) (ok : LedOk d) :
    Calls Try.prog 68 #[.pointer (some ⟨lb, 0, none⟩), .int .i64 i, .int .i64 day] w fun e w' => e = .returned (.int .i64 (balU i day d.ents)) ∧ Ext w w' := by
  have hl := ok.len
  have cl := h.c2
  obtain ⟨a, c, hve, HS⟩ := (h.sig ok.len).form
  rw [hve] at cl
  have hbu := fun k => ok.balU i day k
  have ham := ok.amt
  have hbk := fun k hk hd => balU_break i day ok.up k hk hd
  have HBU := Lib.hid hbu
  have HAM := Lib.hid ham
  have HBK := Lib.hid hbk
  have CL := Lib.hid cl
  clear hbu ham hbk cl
  clear h ok hve
  go_enter Try.func68, Try.ntmps68
  have c2 := CL.out
  go_wp2
  go_loopw [7, 15] (fun v t wr => ∃ k : Nat, k ≤ d.ents.length ∧ t = .int .i64 k ∧ Hid (v = .int .i64 (balU i day (d.ents.take k))) ∧ Hid (Ext w wr)) (fun _ t _ => d.ents.length - (intOf t).toNat)
  case atStart => exact ⟨0, Nat.zero_le _, rfl, rfl, Below.refl _ _⟩
  case round =>
    obtain ⟨k, hk, rfl, HV, HX⟩ := hrel
    have hv := HV.out
    clear c2
    have c2 := HX.out.cellSome CL.out
    by_cases hlt : k < d.ents.length
    · obtain ⟨b, o, rfl, hc⟩ := HS.out.cells (by omega)
      have hxr := HX.out
      have e0 := hxr.cellSome (hc k hlt).1
      have e1 := hxr.cellSome (hc k hlt).2.1
      have e2 := hxr.cellSome (hc k hlt).2.2.1
      have e3 := hxr.cellSome (hc k hlt).2.2.2.1
      have e4 := hxr.cellSome (hc k hlt).2.2.2.2
      have hbt := balU_take i day d.ents k hlt
      have ha := HAM.out d.ents[k] (List.getElem_mem hlt)
      have hb0 := HBU.out k
      have hbk := HBK.out k hlt
      obtain ⟨n1, hn1⟩ : ∃ n, n = balU i day (d.ents.take (k + 1)) := ⟨_, rfl⟩
      rw [← hn1] at hbt
      have HN1 := Lib.hid hn1
      clear hn1
      generalize balU i day (d.ents.take k) = n0 at *
      subst hv
      have j1 : (0:Int) ≤ (k:Int) := by omega
      have j2 : (k:Int) < (d.ents.length:Int) := by omega
      generalize d.ents[k] = x at *
      obtain ⟨⟨xf, xt, xa, xd⟩, xs⟩ := x
      unfold mv at hbt
      dsimp only at hbt ha e0 e1 e2 e3 e4 hbk
      obtain ⟨ha1, ha2⟩ := ha
      obtain ⟨hb1, hb2⟩ := hb0
      clear hc hxr HV
      by_cases hd : xd ≤ day
      · rw [if_pos hd] at hbt
        clear hbk
        by_cases ht : xt = i
        · rw [if_pos ht] at hbt
          have ht2 : (xt == i) = true := by simp [ht]
          clear ht
          by_cases hf : xf = i
          · rw [if_pos hf] at hbt
            have hf2 : (xf == i) = true := by simp [hf]
            clear hf
            have HN := Lib.hid (show n0 + xa - xa = n1 by omega)
            clear hbt
            go_wp2_with (first
              | (with_reducible refine wpList_allocA (t := 76) rfl rfl Try.zeroValue76 ?_
                 rintro pb w3 hb3 hx3 hl3
                 replace e0 := hx3.cellSome e0
                 replace e1 := hx3.cellSome e1
                 replace e2 := hx3.cellSome e2
                 replace e3 := hx3.cellSome e3
                 replace e4 := hx3.cellSome e4
                 replace c2 := hx3.cellSome c2
                 have lp : w.heap.size ≤ pb := Nat.le_trans HX.out.size hl3
                 replace HX := Lib.hid (HX.out.ext hx3)
                 have PB := Lib.hid hb3
                 have LP := Lib.hid lp
                 clear hb3 lp
                 clear hx3 hl3)
              | (with_reducible refine wpList_storeK (cells := #[.int .i64 xf, .int .i64 xt, .int .i64 xa, .int .i64 xd, .int .u64 xs]) rfl rfl PB.out ?_ ?_ ?_ ?_ ?_ ?_
                 · rfl
                 · rfl
                 · kernel_rfl
                 · rfl
                 · simp [Value.oneCell']
                 rintro w4 hb4 ho4
                 have hx4 := HX.out.then_only ho4 (fun k (e : k = pb) => by rw [e]; exact LP.out)
                 have p0 := hb4.cell 0
                 have p1 := hb4.cell 1
                 have p2 := hb4.cell 2
                 have p3 := hb4.cell 3
                 clear HX PB e0 e1 e2 e3 e4 c2
                 have HX := Lib.hid hx4
                 clear hx4
                 clear hb4 ho4))
            go_roundw
            case rel => exact ⟨k + 1, by omega, by go_num, Lib.hid (congrArg (Value.int .i64) (by have h1 := HN.out; have h2 := HN1.out; omega)), HX.out⟩
            case measure => simp [intOf]; omega
          · rw [if_neg hf] at hbt
            have hf2 : (xf == i) = false := by simp [hf]
            have HN := Lib.hid (show n0 + xa = n1 by omega)
            clear hbt hf
            go_wp2_with (first
              | (with_reducible refine wpList_allocA (t := 76) rfl rfl Try.zeroValue76 ?_
                 rintro pb w3 hb3 hx3 hl3
                 replace e0 := hx3.cellSome e0
                 replace e1 := hx3.cellSome e1
                 replace e2 := hx3.cellSome e2
                 replace e3 := hx3.cellSome e3
                 replace e4 := hx3.cellSome e4
                 replace c2 := hx3.cellSome c2
                 have lp : w.heap.size ≤ pb := Nat.le_trans HX.out.size hl3
                 replace HX := Lib.hid (HX.out.ext hx3)
                 have PB := Lib.hid hb3
                 have LP := Lib.hid lp
                 clear hb3 lp
                 clear hx3 hl3)
              | (with_reducible refine wpList_storeK (cells := #[.int .i64 xf, .int .i64 xt, .int .i64 xa, .int .i64 xd, .int .u64 xs]) rfl rfl PB.out ?_ ?_ ?_ ?_ ?_ ?_
                 · rfl
                 · rfl
                 · kernel_rfl
                 · rfl
                 · simp [Value.oneCell']
                 rintro w4 hb4 ho4
                 have hx4 := HX.out.then_only ho4 (fun k (e : k = pb) => by rw [e]; exact LP.out)
                 have p0 := hb4.cell 0
                 have p1 := hb4.cell 1
                 have p2 := hb4.cell 2
                 have p3 := hb4.cell 3
                 clear HX PB e0 e1 e2 e3 e4 c2
                 have HX := Lib.hid hx4
                 clear hx4
                 clear hb4 ho4))
            go_roundw
            case rel => exact ⟨k + 1, by omega, by go_num, Lib.hid (congrArg (Value.int .i64) (by have h1 := HN.out; have h2 := HN1.out; omega)), HX.out⟩
            case measure => simp [intOf]; omega
        · rw [if_neg ht] at hbt
          have ht2 : (xt == i) = false := by simp [ht]
          clear ht
          by_cases hf : xf = i
          · rw [if_pos hf] at hbt
            have hf2 : (xf == i) = true := by simp [hf]
            clear hf
            have HN := Lib.hid (show n0 - xa = n1 by omega)
            clear hbt
            go_wp2_with (first
              | (with_reducible refine wpList_allocA (t := 76) rfl rfl Try.zeroValue76 ?_
                 rintro pb w3 hb3 hx3 hl3
                 replace e0 := hx3.cellSome e0
                 replace e1 := hx3.cellSome e1
                 replace e2 := hx3.cellSome e2
                 replace e3 := hx3.cellSome e3
                 replace e4 := hx3.cellSome e4
                 replace c2 := hx3.cellSome c2
                 have lp : w.heap.size ≤ pb := Nat.le_trans HX.out.size hl3
                 replace HX := Lib.hid (HX.out.ext hx3)
                 have PB := Lib.hid hb3
                 have LP := Lib.hid lp
                 clear hb3 lp
                 clear hx3 hl3)
              | (with_reducible refine wpList_storeK (cells := #[.int .i64 xf, .int .i64 xt, .int .i64 xa, .int .i64 xd, .int .u64 xs]) rfl rfl PB.out ?_ ?_ ?_ ?_ ?_ ?_
                 · rfl
                 · rfl
                 · kernel_rfl
                 · rfl
                 · simp [Value.oneCell']
                 rintro w4 hb4 ho4
                 have hx4 := HX.out.then_only ho4 (fun k (e : k = pb) => by rw [e]; exact LP.out)
                 have p0 := hb4.cell 0
                 have p1 := hb4.cell 1
                 have p2 := hb4.cell 2
                 have p3 := hb4.cell 3
                 clear HX PB e0 e1 e2 e3 e4 c2
                 have HX := Lib.hid hx4
                 clear hx4
                 clear hb4 ho4))
            go_roundw
            case rel => exact ⟨k + 1, by omega, by go_num, Lib.hid (congrArg (Value.int .i64) (by have h1 := HN.out; have h2 := HN1.out; omega)), HX.out⟩
            case measure => simp [intOf]; omega
          · rw [if_neg hf] at hbt
            have hf2 : (xf == i) = false := by simp [hf]
            have HN := Lib.hid (show n0 = n1 by omega)
            clear hbt hf
            go_wp2_with (first
              | (with_reducible refine wpList_allocA (t := 76) rfl rfl Try.zeroValue76 ?_
                 rintro pb w3 hb3 hx3 hl3
                 replace e0 := hx3.cellSome e0
                 replace e1 := hx3.cellSome e1
                 replace e2 := hx3.cellSome e2
                 replace e3 := hx3.cellSome e3
                 replace e4 := hx3.cellSome e4
                 replace c2 := hx3.cellSome c2
                 have lp : w.heap.size ≤ pb := Nat.le_trans HX.out.size hl3
                 replace HX := Lib.hid (HX.out.ext hx3)
                 have PB := Lib.hid hb3
                 have LP := Lib.hid lp
                 clear hb3 lp
                 clear hx3 hl3)
              | (with_reducible refine wpList_storeK (cells := #[.int .i64 xf, .int .i64 xt, .int .i64 xa, .int .i64 xd, .int .u64 xs]) rfl rfl PB.out ?_ ?_ ?_ ?_ ?_ ?_
                 · rfl
                 · rfl
                 · kernel_rfl
                 · rfl
                 · simp [Value.oneCell']
                 rintro w4 hb4 ho4
                 have hx4 := HX.out.then_only ho4 (fun k (e : k = pb) => by rw [e]; exact LP.out)
                 have p0 := hb4.cell 0
                 have p1 := hb4.cell 1
                 have p2 := hb4.cell 2
                 have p3 := hb4.cell 3
                 clear HX PB e0 e1 e2 e3 e4 c2
                 have HX := Lib.hid hx4
                 clear hx4
                 clear hb4 ho4))
            go_roundw
            case rel => exact ⟨k + 1, by omega, by go_num, Lib.hid (congrArg (Value.int .i64) (by have h1 := HN.out; have h2 := HN1.out; omega)), HX.out⟩
            case measure => simp [intOf]; omega
      · have HN := Lib.hid (hbk (by omega))
        clear hbt hbk
        go_wp2_with (first
          | (with_reducible refine wpList_allocA (t := 76) rfl rfl Try.zeroValue76 ?_
             rintro pb w3 hb3 hx3 hl3
             replace e0 := hx3.cellSome e0
             replace e1 := hx3.cellSome e1
             replace e2 := hx3.cellSome e2
             replace e3 := hx3.cellSome e3
             replace e4 := hx3.cellSome e4
             replace c2 := hx3.cellSome c2
             have lp : w.heap.size ≤ pb := Nat.le_trans HX.out.size hl3
             replace HX := Lib.hid (HX.out.ext hx3)
             have PB := Lib.hid hb3
             have LP := Lib.hid lp
             clear hb3 lp
             clear hx3 hl3)
          | (with_reducible refine wpList_storeK (cells := #[.int .i64 xf, .int .i64 xt, .int .i64 xa, .int .i64 xd, .int .u64 xs]) rfl rfl PB.out ?_ ?_ ?_ ?_ ?_ ?_
             · rfl
             · rfl
             · kernel_rfl
             · rfl
             · simp [Value.oneCell']
             rintro w4 hb4 ho4
             have hx4 := HX.out.then_only ho4 (fun k (e : k = pb) => by rw [e]; exact LP.out)
             have p0 := hb4.cell 0
             have p1 := hb4.cell 1
             have p2 := hb4.cell 2
             have p3 := hb4.cell 3
             clear HX PB e0 e1 e2 e3 e4 c2
             have HX := Lib.hid hx4
             clear hx4
             clear hb4 ho4))
        go_ret
        exact ⟨ret_int HN.out, HX.out⟩
    · obtain rfl : k = d.ents.length := by omega
      subst hv
      clear hlt
      go_wp2
      go_ret
      exact ⟨rfl, HX.out⟩
end Go.Proofs.Ytekplfbfkfiabaa
