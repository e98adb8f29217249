/- RegisterDesks: the reference's new desk. -/
import Derived.Test.YtafnadaahnkcmaaDk6
namespace Go.Proofs.Ytafnadaahnkcmaa
open Go.RowKit
set_option linter.unusedVariables false
set_option linter.unusedSimpArgs false

/-- A desk of the reference. -/
def refD (vp vl : Value) (win limit : Int) (vc : Value) : Value := .agg #[vp, vl, .int .i64 win, .int .i64 limit, vc]
def nilS : Value := .slice none 0 0

set_option maxRecDepth 100000 in
set_option maxHeartbeats 4000000 in
theorem refNew_any (pat : List Int) (l : List Loop) (win limit : Int) (vp vl : Value) (w : World) (hp : Ints w vp pat) (hpb : ∀ x ∈ pat, I64 x) (hw : I64 win) (hlm : I64 limit) (hl : LoopsIn w vl l) (hlb : ∀ x ∈ l, I64 x.dead ∧ I64 x.noise ∧ I64 x.blur ∧ I64 x.step) (hpl : pat.length ≤ 1000) (hll : l.length ≤ 1000) :
    Calls Try.prog 25 #[vp, vl, .int .i64 win, .int .i64 limit] w fun e w' => ∃ a1 n1 c1 a2 n2 c2 a b, e = .returned (.tuple #[refD (.slice a1 n1 c1) (.slice a2 n2 c2) a b nilS, .int .i64 (newErr pat l win limit)]) ∧ (newErr pat l win limit = 0 → .slice a1 n1 c1 = vp ∧ .slice a2 n2 c2 = vl ∧ a = win ∧ b = limit) ∧ Ext w w' := by
  obtain ⟨ap, cp, rfl, HP⟩ := hp.form
  obtain ⟨_, al, cl, rfl, hlc⟩ := hl
  obtain ⟨er, her⟩ : ∃ er, newErr pat l win limit = er := ⟨_, rfl⟩
  rw [her]
  unfold refD nilS
  have HL := Lib.hid hlc
  have HPB := Lib.hid hpb
  have HW := Lib.hid hw
  have HLB := Lib.hid hlb
  clear hlc hpb hw hlb
  unfold I64 at hlm
  obtain ⟨lm1, lm2⟩ := hlm
  clear hp
  by_cases a1 : pat.length < 2 ∨ 12 < pat.length
  · have her2 : er = 2 := by rw [← her]; unfold newErr; rw [if_pos (by omega)]
    subst her2
    clear her
    go_enter Try.func25, Try.ntmps25
    by_cases a2 : pat.length < 2
    · have e1 : decide ((pat.length:Int) < 2) = true := decide_eq_true (by omega)
      go_wp2_with (first
        | (with_reducible refine wpList_allocA (t := 71) rfl rfl Try.zeroValue71 ?_
           rintro fb w3 hb3 hx3 hl3
           have hlf : w.heap.size ≤ fb := hl3
           have FB := Lib.hid hb3
           have X3 := Lib.hid hx3
           clear hb3 hx3
           clear hl3)
        | (with_reducible refine wpList_storeK (ty := 71) (cells := #[.slice none 0 0, .slice none 0 0, .int .i64 0, .int .i64 0, .slice none 0 0]) rfl rfl FB.out ?_ ?_ ?_ ?_ ?_ ?_
           · rfl
           · rfl
           · kernel_rfl
           · rfl
           · simp [Value.oneCell']
           rintro w4 hb4 ho4
           have k0 := hb4.cell
           have hx4 : Ext w w4 := X3.out.then_only ho4 (fun k (e : k = fb) => by omega)
           have X4 := Lib.hid hx4
           clear hx4
           clear hb4 ho4 X3))
      refine bodyPost_ret (v := .tuple #[.agg #[.slice none 0 0, .slice none 0 0, .int .i64 0, .int .i64 0, .slice none 0 0], .int .i64 2]) (by simp [results, Try.results25, go_sem, k0]) rfl ⟨none, 0, 0, none, 0, 0, 0, 0, rfl, (fun h => by omega), X4.out⟩
    · have e1 : decide ((pat.length:Int) < 2) = false := decide_eq_false (by omega)
      have e2 : decide ((12:Int) < (pat.length:Int)) = true := decide_eq_true (by omega)
      go_wp2_with (first
        | (with_reducible refine wpList_allocA (t := 71) rfl rfl Try.zeroValue71 ?_
           rintro fb w3 hb3 hx3 hl3
           have hlf : w.heap.size ≤ fb := hl3
           have FB := Lib.hid hb3
           have X3 := Lib.hid hx3
           clear hb3 hx3
           clear hl3)
        | (with_reducible refine wpList_storeK (ty := 71) (cells := #[.slice none 0 0, .slice none 0 0, .int .i64 0, .int .i64 0, .slice none 0 0]) rfl rfl FB.out ?_ ?_ ?_ ?_ ?_ ?_
           · rfl
           · rfl
           · kernel_rfl
           · rfl
           · simp [Value.oneCell']
           rintro w4 hb4 ho4
           have k0 := hb4.cell
           have hx4 : Ext w w4 := X3.out.then_only ho4 (fun k (e : k = fb) => by omega)
           have X4 := Lib.hid hx4
           clear hx4
           clear hb4 ho4 X3))
      refine bodyPost_ret (v := .tuple #[.agg #[.slice none 0 0, .slice none 0 0, .int .i64 0, .int .i64 0, .slice none 0 0], .int .i64 2]) (by simp [results, Try.results25, go_sem, k0]) rfl ⟨none, 0, 0, none, 0, 0, 0, 0, rfl, (fun h => by omega), X4.out⟩
  have e1 : decide ((pat.length:Int) < 2) = false := decide_eq_false (by omega)
  have e2 : decide ((12:Int) < (pat.length:Int)) = false := decide_eq_false (by omega)
  go_enter Try.func25, Try.ntmps25
  go_wp2_with (
    with_reducible refine wpList_allocA (t := 71) rfl rfl Try.zeroValue71 ?_
    rintro fb w3 hb3 hx3 hl3
    have hlf : w.heap.size ≤ fb := hl3
    have FB := Lib.hid hb3
    have X3 := Lib.hid hx3
    clear hb3 hx3
    clear hl3)
  go_loopw [10] (fun t wr => ∃ k : Nat, k ≤ l.length ∧ t = .int .i64 k ∧ Hid (∀ i (h : i < l.length), i < k → l[i].Ok) ∧ Hid (Ext w wr) ∧ Hid (Blk wr fb #[.slice none 0 0, .slice none 0 0, .int .i64 0, .int .i64 0, .slice none 0 0] 71)) (fun t _ => l.length - (intOf t).toNat)
  case atStart => exact ⟨0, Nat.zero_le _, rfl, (fun i h h2 => by omega), X3.out, FB.out⟩
  case round =>
    obtain ⟨k, hk, rfl, HK, HX, HF⟩ := hrel
    by_cases hlt : k < l.length
    · skip
      as_aux_lemma =>
        obtain ⟨b1, o1, rfl, hc1⟩ := HL.out (by omega)
        have hcx := hc1 k hlt
        obtain ⟨x, hx⟩ : ∃ x, x = l[k] := ⟨_, rfl⟩
        rw [← hx] at hcx
        have hxb := HLB.out x (by rw [hx]; exact List.getElem_mem _)
        have c0 : wr.cell? ⟨b1, o1 + k * 4, none⟩ = some (.int .i64 x.dead) := HX.out.cellSome (hcx 0 (by omega))
        have c1 : wr.cell? ⟨b1, o1 + k * 4 + 1, none⟩ = some (.int .i64 x.noise) := HX.out.cellSome (hcx 1 (by omega))
        have c2 : wr.cell? ⟨b1, o1 + k * 4 + 2, none⟩ = some (.int .i64 x.blur) := HX.out.cellSome (hcx 2 (by omega))
        have c3 : wr.cell? ⟨b1, o1 + k * 4 + 3, none⟩ = some (.int .i64 x.step) := HX.out.cellSome (hcx 3 (by omega))
        have hck := fun wz => refCheck_any x wz hxb.1 hxb.2.1 hxb.2.2.1 hxb.2.2.2
        unfold Loop.val at hck
        have HXE := Lib.hid hx
        have HCK := Lib.hid hck
        clear hx hck
        clear hc1 hcx hxb
        by_cases hok : x.Ok
        · have HV := Lib.hid (show x.err = 0 by simp [Loop.err, hok])
          have HK2 : Hid (∀ i (h : i < l.length), i < k + 1 → l[i].Ok) := fun i h h2 => by
            rcases Nat.lt_or_ge i k with h3 | h3
            · exact HK.out i h h3
            · obtain rfl : i = k := by omega
              rw [← HXE.out]; exact hok
          clear hok
          go_wp2_with (go_at_call 45; refine (HCK.out _).mono ?_; rintro e w5 ⟨rfl, hx5⟩; rw [HV.out]
                       have hf5 := HF.out.ext hx5
                       replace HX := Lib.hid (HX.out.ext hx5)
                       have HF5 := Lib.hid hf5
                       clear hf5
                       clear hx5)
          go_roundw
          case rel => exact ⟨k + 1, by omega, by go_num, HK2.out, HX.out, HF5.out⟩
          case measure => first | (simp [intOf]; done) | (simp [intOf]; omega)
        · have HV := Lib.hid (show x.err = 60 by simp [Loop.err, hok])
          have her2 : er = 60 := by
            rw [← her]; unfold newErr
            rw [if_neg (fun h => h (by omega)), if_pos ⟨l[k], List.getElem_mem _, by rw [← HXE.out]; exact hok⟩]
          subst her2
          clear hok her
          go_wp2_with (first
            | (go_at_call 45; refine (HCK.out _).mono ?_; rintro e w5 ⟨rfl, hx5⟩; rw [HV.out]
               have hf5 := HF.out.ext hx5
               replace HX := Lib.hid (HX.out.ext hx5)
               have HF5 := Lib.hid hf5
               clear hf5
               clear hx5)
            | (with_reducible refine wpList_storeK (ty := 71) (cells := #[.slice none 0 0, .slice none 0 0, .int .i64 0, .int .i64 0, .slice none 0 0]) rfl rfl HF5.out ?_ ?_ ?_ ?_ ?_ ?_
               · rfl
               · rfl
               · kernel_rfl
               · rfl
               · simp [Value.oneCell']
               rintro w4 hb4 ho4
               have k0 := hb4.cell
               have hx4 : Ext w w4 := HX.out.then_only ho4 (fun k (e : k = fb) => by omega)
               have X4 := Lib.hid hx4
               clear hx4
               clear hb4 ho4))
          refine bodyPost_ret (v := .tuple #[.agg #[.slice none 0 0, .slice none 0 0, .int .i64 0, .int .i64 0, .slice none 0 0], .int .i64 60]) (by simp [results, Try.results25, go_sem, k0]) rfl ⟨none, 0, 0, none, 0, 0, 0, 0, rfl, (fun h => by omega), X4.out⟩
    · obtain rfl : k = l.length := by omega
      as_aux_lemma =>
        have hall : ∀ x ∈ l, x.Ok := fun x hx => by
          obtain ⟨i, hi, rfl⟩ := List.mem_iff_getElem.1 hx
          exact HK.out i hi hi
        have f1 : IntKind.i64.wrap ((l.length : Int) + 1) = (l.length : Int) + 1 := i64_eq _ (by omega)
        have hn2 : ¬ (∃ x ∈ l, ¬ x.Ok) := fun ⟨x, hx, h⟩ => h (hall x hx)
        have HN2 := Lib.hid hn2
        clear hn2
        clear hall
        by_cases c1 : (l.length : Int) ≠ pat.length - 1
        · have her2 : er = 1 := by rw [← her]; unfold newErr; rw [if_neg (fun h => h (by omega)), if_neg HN2.out, if_pos c1]
          subst her2
          have f2 : (((l.length : Int) + 1) != (pat.length : Int)) = true := by simp; omega
          clear her c1
          go_wp2_with (first
            | (with_reducible refine wpList_storeK (ty := 71) (cells := #[.slice none 0 0, .slice none 0 0, .int .i64 0, .int .i64 0, .slice none 0 0]) rfl rfl HF.out ?_ ?_ ?_ ?_ ?_ ?_
               · rfl
               · rfl
               · kernel_rfl
               · rfl
               · simp [Value.oneCell']
               rintro w4 hb4 ho4
               have k0 := hb4.cell
               have hx4 : Ext w w4 := HX.out.then_only ho4 (fun k (e : k = fb) => by omega)
               have X4 := Lib.hid hx4
               clear hx4
               clear hb4 ho4))
          refine bodyPost_ret (v := .tuple #[.agg #[.slice none 0 0, .slice none 0 0, .int .i64 0, .int .i64 0, .slice none 0 0], .int .i64 1]) (by simp [results, Try.results25, go_sem, k0]) rfl ⟨none, 0, 0, none, 0, 0, 0, 0, rfl, (fun h => by omega), X4.out⟩
        · have f2 : (((l.length : Int) + 1) != (pat.length : Int)) = false := by simp; omega
          have hwr := fun wz hz => wrong_any pat ap cp win wz (HP.out.ext hz) HW.out HPB.out
          have HWR := Lib.hid hwr
          clear hwr
          by_cases c2 : GoodP pat win
          · have HG := Lib.hid (goodB_true c2)
            by_cases c3 : 0 ≤ limit ∧ limit ≤ 1000000
            · have her2 : er = 0 := by
                rw [← her]; unfold newErr; rw [if_neg (fun h => h (by omega)), if_neg HN2.out, if_neg c1, if_neg (fun h => by rcases h with h | h; exact h c2; exact h c3)]
              subst her2
              obtain ⟨c31, c32⟩ := c3
              have f3 : decide (limit < 0) = false := decide_eq_false (by omega)
              have f4 : decide (1000000 < limit) = false := decide_eq_false (by omega)
              clear her c1 c2
              go_wp2_with (first
                | (go_at_call 34; refine (HWR.out _ HX.out).mono ?_; rintro e w5 ⟨rfl, n, hn⟩; rw [HG.out]
                   have hx5 : Ext wr w5 := by rw [hn]; exact Ext.of_drewN _ _
                   have hf5 := HF.out.ext hx5
                   replace HX := Lib.hid (HX.out.ext hx5)
                   have HF5 := Lib.hid hf5
                   clear hf5
                   clear hx5 hn)
                | (with_reducible refine wpList_storeK (ty := 71) (cells := #[.slice ap pat.length cp, .slice al l.length cl, .int .i64 win, .int .i64 limit, .slice none 0 0]) rfl rfl HF5.out ?_ ?_ ?_ ?_ ?_ ?_
                   · rfl
                   · rfl
                   · kernel_rfl
                   · rfl
                   · simp [Value.oneCell']
                   rintro w4 hb4 ho4
                   have k0 := hb4.cell
                   have hx4 : Ext w w4 := HX.out.then_only ho4 (fun k (e : k = fb) => by omega)
                   have X4 := Lib.hid hx4
                   clear hx4
                   clear hb4 ho4))
              refine bodyPost_ret (v := .tuple #[.agg #[.slice ap pat.length cp, .slice al l.length cl, .int .i64 win, .int .i64 limit, .slice none 0 0], .int .i64 0]) (by simp [results, Try.results25, go_sem, k0]) rfl ⟨_, _, _, _, _, _, _, _, rfl, (by first | exact fun _ => ⟨rfl, rfl, rfl, rfl⟩ | exact ⟨rfl, rfl, rfl, rfl⟩ | exact ⟨⟨rfl, rfl, rfl⟩, ⟨rfl, rfl, rfl⟩, rfl, rfl⟩), X4.out⟩
            · have her2 : er = 6 := by
                rw [← her]; unfold newErr; rw [if_neg (fun h => h (by omega)), if_neg HN2.out, if_neg c1, if_pos (.inr c3)]
              subst her2
              by_cases c4 : limit < 0
              · have f3 : decide (limit < 0) = true := decide_eq_true (by omega)
                clear her c1 c2 c3
                go_wp2_with (first
                  | (go_at_call 34; refine (HWR.out _ HX.out).mono ?_; rintro e w5 ⟨rfl, n, hn⟩; rw [HG.out]
                     have hx5 : Ext wr w5 := by rw [hn]; exact Ext.of_drewN _ _
                     have hf5 := HF.out.ext hx5
                     replace HX := Lib.hid (HX.out.ext hx5)
                     have HF5 := Lib.hid hf5
                     clear hf5
                     clear hx5 hn)
                  | (with_reducible refine wpList_storeK (ty := 71) (cells := #[.slice none 0 0, .slice none 0 0, .int .i64 0, .int .i64 0, .slice none 0 0]) rfl rfl HF5.out ?_ ?_ ?_ ?_ ?_ ?_
                     · rfl
                     · rfl
                     · kernel_rfl
                     · rfl
                     · simp [Value.oneCell']
                     rintro w4 hb4 ho4
                     have k0 := hb4.cell
                     have hx4 : Ext w w4 := HX.out.then_only ho4 (fun k (e : k = fb) => by omega)
                     have X4 := Lib.hid hx4
                     clear hx4
                     clear hb4 ho4))
                refine bodyPost_ret (v := .tuple #[.agg #[.slice none 0 0, .slice none 0 0, .int .i64 0, .int .i64 0, .slice none 0 0], .int .i64 6]) (by simp [results, Try.results25, go_sem, k0]) rfl ⟨none, 0, 0, none, 0, 0, 0, 0, rfl, (fun h => by omega), X4.out⟩
              · have f3 : decide (limit < 0) = false := decide_eq_false (by omega)
                have f4 : decide (1000000 < limit) = true := decide_eq_true (by omega)
                clear her c1 c2 c3
                go_wp2_with (first
                  | (go_at_call 34; refine (HWR.out _ HX.out).mono ?_; rintro e w5 ⟨rfl, n, hn⟩; rw [HG.out]
                     have hx5 : Ext wr w5 := by rw [hn]; exact Ext.of_drewN _ _
                     have hf5 := HF.out.ext hx5
                     replace HX := Lib.hid (HX.out.ext hx5)
                     have HF5 := Lib.hid hf5
                     clear hf5
                     clear hx5 hn)
                  | (with_reducible refine wpList_storeK (ty := 71) (cells := #[.slice none 0 0, .slice none 0 0, .int .i64 0, .int .i64 0, .slice none 0 0]) rfl rfl HF5.out ?_ ?_ ?_ ?_ ?_ ?_
                     · rfl
                     · rfl
                     · kernel_rfl
                     · rfl
                     · simp [Value.oneCell']
                     rintro w4 hb4 ho4
                     have k0 := hb4.cell
                     have hx4 : Ext w w4 := HX.out.then_only ho4 (fun k (e : k = fb) => by omega)
                     have X4 := Lib.hid hx4
                     clear hx4
                     clear hb4 ho4))
                refine bodyPost_ret (v := .tuple #[.agg #[.slice none 0 0, .slice none 0 0, .int .i64 0, .int .i64 0, .slice none 0 0], .int .i64 6]) (by simp [results, Try.results25, go_sem, k0]) rfl ⟨none, 0, 0, none, 0, 0, 0, 0, rfl, (fun h => by omega), X4.out⟩
          · have HG := Lib.hid (goodB_false c2)
            have her2 : er = 6 := by
              rw [← her]; unfold newErr; rw [if_neg (fun h => h (by omega)), if_neg HN2.out, if_neg c1, if_pos (.inl c2)]
            subst her2
            clear her c1 c2
            go_wp2_with (first
              | (go_at_call 34; refine (HWR.out _ HX.out).mono ?_; rintro e w5 ⟨rfl, n, hn⟩; rw [HG.out]
                 have hx5 : Ext wr w5 := by rw [hn]; exact Ext.of_drewN _ _
                 have hf5 := HF.out.ext hx5
                 replace HX := Lib.hid (HX.out.ext hx5)
                 have HF5 := Lib.hid hf5
                 clear hf5
                 clear hx5 hn)
              | (with_reducible refine wpList_storeK (ty := 71) (cells := #[.slice none 0 0, .slice none 0 0, .int .i64 0, .int .i64 0, .slice none 0 0]) rfl rfl HF5.out ?_ ?_ ?_ ?_ ?_ ?_
                 · rfl
                 · rfl
                 · kernel_rfl
                 · rfl
                 · simp [Value.oneCell']
                 rintro w4 hb4 ho4
                 have k0 := hb4.cell
                 have hx4 : Ext w w4 := HX.out.then_only ho4 (fun k (e : k = fb) => by omega)
                 have X4 := Lib.hid hx4
                 clear hx4
                 clear hb4 ho4))
            refine bodyPost_ret (v := .tuple #[.agg #[.slice none 0 0, .slice none 0 0, .int .i64 0, .int .i64 0, .slice none 0 0], .int .i64 6]) (by simp [results, Try.results25, go_sem, k0]) rfl ⟨none, 0, 0, none, 0, 0, 0, 0, rfl, (fun h => by omega), X4.out⟩
end Go.Proofs.Ytafnadaahnkcmaa
