/- Post. -/
import Derived.Test.YtekplfbfkfiabaaBkPost
import Derived.Test.YtekplfbfkfiabaaBkMem
namespace Go.Proofs.Ytekplfbfkfiabaa
open Go.RowKit
set_option linter.unusedVariables false
set_option linter.unusedSimpArgs false

theorem ec_ne {k : Nat} (hk : k < 7) : ec k ≠ 0 := by
  rcases seven hk with rfl | rfl | rfl | rfl | rfl | rfl | rfl <;> decide
def EntD.fits (x : EntD) : Prop := I64 x.frm ∧ I64 x.to ∧ I64 x.amt ∧ I64 x.day
def PostPost (w : World) (B lb : Nat) (d : LedD) (m : LMem) (x : EntD) (e : Ending) (w' : World) : Prop :=
  e = .returned (.int .i64 (postErr d x)) ∧ ((postErr d x ≠ 0 ∧ Ext w w') ∨
    (postErr d x = 0 ∧ ∃ v', LSt w' B lb (postD d x) { m with ve := v' } ∧ FreshOr w m.ve v' ∧ Only (fun k => k = lb ∨ m.ve.ownBlock = some k) w w'))

theorem uw_in (n : Int) (h : 0 ≤ n ∧ n ≤ 18446744073709551615) : uw n = n := u64_wrap_in n h
theorem idx5_0 (a b c d e : Value) (w : World) : (Instr.index 143 (.agg #[a, b, c, d, e]) (.int .i64 0)).run Try.prog w = .ok a w := by kernel_rfl
theorem idx5_1 (a b c d e : Value) (w : World) : (Instr.index 143 (.agg #[a, b, c, d, e]) (.int .i64 1)).run Try.prog w = .ok b w := by kernel_rfl
theorem idx5_2 (a b c d e : Value) (w : World) : (Instr.index 143 (.agg #[a, b, c, d, e]) (.int .i64 2)).run Try.prog w = .ok c w := by kernel_rfl
theorem idx5_3 (a b c d e : Value) (w : World) : (Instr.index 143 (.agg #[a, b, c, d, e]) (.int .i64 3)).run Try.prog w = .ok d w := by kernel_rfl
theorem idx5_4 (a b c d e : Value) (w : World) : (Instr.index 143 (.agg #[a, b, c, d, e]) (.int .i64 4)).run Try.prog w = .ok e w := by kernel_rfl
/-- An element of an array's value. -/
theorem wpList_index {P : Program} {w : World} {ops : Array Oper} {rest : List Oper} {o : Oper} {a : Act} {Q : Exit → Act → World → Prop} (hgd : o.guard = none) {t : TypeId} {x y : Operand} (ho : o.op = .index t x y) {cs : Array Value} {k : Int} {v : Value}
    (hx : a.eval x = .agg cs) (hy : a.eval y = .int .i64 k) (hr : ∀ w, (Instr.index t (.agg cs) (.int .i64 k)).run P w = .ok v w)
    (h : wpList P ops Q rest (a.put o.dst v) w) : wpList P ops Q (o :: rest) a w := by
  refine wpList_plain hgd fun K hK => ?_
  unfold Oper.wp execOp
  simp only [ho, hx, hy, Sem.run_bind, hr, Result.andThen_ok]
  exact hK _ _ h

set_option maxRecDepth 100000 in
set_option maxHeartbeats 4000000 in
theorem post_any (B lb : Nat) (d : LedD) (m : LMem) (x : EntD) (w : World) (h : LSt w B lb d m) (ok : LedOk d) (hB : B ≤ w.heap.size) (hx : x.fits) :
    Calls Try.prog 31 #[.pointer (some ⟨lb, 0, none⟩), entV x] w (PostPost w B lb d m x) := by
  have hp : ∀ e w', PostPost w B lb d m x e w' → PostPost w B lb d m x e w' := fun _ _ h => h
  have hrule : ∀ k, k < 7 → (∀ j, j < k → rr d x j = true) → ∀ w1, Ext w w1 → Calls Try.prog (ruleF k) #[.pointer (some ⟨lb, 0, none⟩), entV x] w1 (RulePost w1 (rr d x k)) :=
    fun k hk hh w1 hw => rule_any hk (h.ext hw) ok hh
  obtain ⟨xf, xt, xa, xd⟩ := x
  obtain ⟨fx1, fx2, fx3, fx4⟩ := hx
  dsimp only at fx1 fx2 fx3 fx4
  have c0 := h.c0
  have HP := Lib.hid hp
  have HRU := Lib.hid hrule
  have L := Lib.hid h
  have OK := Lib.hid ok
  clear hp hrule h ok
  unfold entV at *
  dsimp only at *
  go_enter Try.func31, Try.ntmps31
  go_wp2_with (first
    | (with_reducible refine wpList_boxA (t := 60) rfl rfl rfl ?_
       rintro eb w1 hb1 hx1 hl1
       replace c0 := hx1.cellSome c0
       have EB := Lib.hid hb1
       have X := Lib.hid hx1
       have LE := Lib.hid hl1
       clear hb1 hx1 hl1)
    | (go_at_call 66
       refine (none_any lb m.ab _ c0).mono ?_
       rintro e w' ⟨rfl, rfl⟩)
    | (go_at_call 72
       refine (rules_any _).mono ?_
       rintro e w2 ⟨rb, rfl, hb2, hx2⟩
       replace EB := Lib.hid (EB.out.ext hx2)
       replace X := Lib.hid (X.out.ext hx2)
       have RB := Lib.hid hb2
       clear hb2
       clear hx2 c0))
  go_loopw [15] (fun t wr => ∃ k : Nat, k ≤ 7 ∧ t = .int .i64 k ∧ Hid (∀ j, j < k → rr d ⟨xf, xt, xa, xd⟩ j = true) ∧ Hid (Ext w2 wr)) (fun t _ => 7 - (intOf t).toNat)
  case atStart => exact ⟨0, Nat.zero_le _, rfl, (fun j hj => by omega), Below.refl _ _⟩
  case round =>
    obtain ⟨k, hk, rfl, HR, HX⟩ := hrel
    by_cases hlt : k < 7
    · have hcg := ruleC_get hlt
      have c1 := ((RB.out.ext HX.out).cell (k * 2)).trans hcg.1
      have c2 := ((RB.out.ext HX.out).cell (k * 2 + 1)).trans hcg.2
      have hxr := X.out.tr HX.out
      have HF := Lib.hid (HRU.out k hlt HR.out)
      have hid := ruleF_enter hlt
      have j1 : (0:Int) ≤ (k:Int) := by omega
      have j2 : (k:Int) < 7 := by omega
      have HB7 := Lib.hid (@rr_bad d ⟨xf, xt, xa, xd⟩ k hlt HR.out)
      have HN := Lib.hid (@rr_next d ⟨xf, xt, xa, xd⟩ k HR.out)
      have he0 : ec k ≠ 0 := ec_ne hlt
      generalize ruleF k = fid at *
      generalize ec k = er at *
      have HXR := Lib.hid hxr
      have HE0 := Lib.hid he0
      clear hcg hxr he0
      have hf := HF.out
      clear HF
      rcases hb : rr d ⟨xf, xt, xa, xd⟩ k with _ | _ <;> (
        rw [hb] at hf
        have HF := Lib.hid hf
        have hb2 := hb
        have HBB := Lib.hid hb2
        clear hb2 hb hf
        go_wp2_with (first
          | (with_reducible refine wpList_allocA (t := 142) rfl rfl Try.zeroValue142 ?_
             rintro pb w3 hb3 hx3 hl3
             replace c1 := hx3.cellSome c1
             replace c2 := hx3.cellSome c2
             have lp : w2.heap.size ≤ pb := Nat.le_trans HX.out.size hl3
             replace HX := Lib.hid (HX.out.ext hx3)
             replace HXR := Lib.hid (HXR.out.ext hx3)
             have PB := Lib.hid hb3
             have LP := Lib.hid lp
             clear hb3 lp
             clear hx3 hl3)
          | (with_reducible refine wpList_storeK (cells := #[.func (.func fid) #[] #[], .int .i64 er]) rfl rfl PB.out ?_ ?_ ?_ ?_ ?_ ?_
             · rfl
             · rfl
             · kernel_rfl
             · rfl
             · simp [Value.oneCell']
             rintro w4 hb4 ho4
             have hx4 := HX.out.then_only ho4 (fun k (e : k = pb) => by rw [e]; exact LP.out)
             have hx5 := X.out.tr hx4
             have eb4 := EB.out.ext hx4
             have e0 := eb4.cell 0
             have e1 := eb4.cell 1
             have e2 := eb4.cell 2
             have e3 := eb4.cell 3
             have p0 := hb4.cell 0
             have p1 := hb4.cell 1
             clear HX HXR PB c1 c2
             have HX := Lib.hid hx4
             have HXR := Lib.hid hx5
             clear hx4 hx5
             clear hb4 ho4 eb4)
          | (refine (HF.out _ HXR.out).mono ?_
             rintro e w5 ⟨rfl, hx5⟩
             replace p1 := hx5.cellSome p1
             replace HX := Lib.hid (HX.out.ext hx5)
             replace HXR := Lib.hid (HXR.out.ext hx5)
             clear hx5))
        skip)
      · go_ret
        exact HP.out _ _ ⟨ret_int (HB7.out HBB.out).symm, .inl ⟨by rw [HB7.out HBB.out]; exact HE0.out, HXR.out⟩⟩
      · go_roundw
        case rel => exact ⟨k + 1, by omega, by go_num, HN.out HBB.out, HX.out⟩
        case measure => simp [intOf]; omega
    · obtain rfl : k = 7 := by omega
      clear hlt hk
      obtain ⟨wq, hwq⟩ : ∃ W, W = wr := ⟨wr, rfl⟩
      subst hwq
      have hgood := rr_good HR.out
      obtain ⟨g1, ⟨g2, g3, g4, g5, g6⟩, g7, ⟨g8, g9, g10, g11⟩, _, _, _⟩ := postErr_ok hgood
      dsimp only at g2 g3 g4 g5 g6 g8 g9 g10 g11
      have hn40 : d.n ≤ 40 := OK.out.n1.2
      obtain ⟨i, rfl⟩ := Int.eq_ofNat_of_zero_le g2
      obtain ⟨j, rfl⟩ := Int.eq_ofNat_of_zero_le g4
      have i40 : i < 40 := by omega
      have j40 : j < 40 := by omega
      have hij : i ≠ j := by omega
      have hlen : d.ents.length < 5000 := by omega
      have xq := X.out.tr HX.out
      have eq1 := EB.out.ext HX.out
      have lq := L.out.ext xq
      have leb : eb ≠ lb := fun e => by
        have h1 := L.out.led.lt
        have h2 := LE.out
        omega
      have hnve : ∀ b, m.ve.ownBlock = some b → b ≠ eb := fun b hb => by
        have h1 := (L.out.ents.lt b hb).2
        have h2 := LE.out
        omega
      have hbi := OK.out.bal i
      have hbj := OK.out.bal j
      have c1 := lq.c1
      have c2 := lq.c2
      obtain ⟨a, c, hve, HS⟩ := (lq.sig OK.out.len).form
      rw [hve] at c2
      obtain ⟨sg, hsg⟩ : ∃ s, sigStart d = s := ⟨_, rfl⟩
      have e0 := eq1.cell 0
      have e1 := eq1.cell 1
      have e2 := eq1.cell 2
      have e3 := eq1.cell 3
      have hst := stepI d.key 1
      have HG := Lib.hid hgood
      have EQ := Lib.hid eq1
      have LQ := Lib.hid lq
      have XQ := Lib.hid xq
      have VE := Lib.hid hve
      have NEL := Lib.hid leb
      have NVE := Lib.hid hnve
      have HBI := Lib.hid hbi
      have HBJ := Lib.hid hbj
      clear hgood eq1 lq xq hve leb hnve hbi hbj
      clear HRU HR HX X EB RB L
      have hcase : (d.ents.length = 0 ∧ sg = stepI d.key 1) ∨ ∃ q, d.ents.length = q + 1 ∧ ∃ b o, a = some ⟨b, o, none⟩ ∧ wq.cell? ⟨b, o + q * 5 + 4, none⟩ = some (.int .u64 sg) := by
        rcases Nat.eq_zero_or_pos d.ents.length with h0 | h0
        · refine .inl ⟨h0, ?_⟩
          have : d.ents = [] := List.eq_nil_of_length_eq_zero h0
          rw [← hsg]; unfold sigStart; rw [this]; rfl
        · obtain ⟨b, o, ha, hc⟩ := HS.out.cells h0
          refine .inr ⟨d.ents.length - 1, by omega, b, o, ha, ?_⟩
          have h5 := (hc (d.ents.length - 1) (by omega)).2.2.2.2
          rw [h5, ← hsg]
          unfold sigStart
          have : d.ents.getLast? = some (d.ents[d.ents.length - 1]'(by omega)) := by
            rw [List.getLast?_eq_getElem?]
            exact List.getElem?_eq_getElem (by omega)
          rw [this]
      have HSG := Lib.hid hsg
      clear hsg HS hst
      have HCA := Lib.hid hcase
      clear hcase
      go_upto_if 39 with (first
        | (go_at_call 36; refine (step_any _ _ _).mono ?_; rintro e w' ⟨rfl, rfl⟩))
      go_cut [7] (fun v W => v = .int .u64 sg ∧ Hid (W = wq))
      case first =>
        as_aux_lemma =>
          rcases HCA.out with ⟨h0, rfl⟩ | ⟨q, h0, b, o, rfl, cq⟩
          · have k0 : d.ents.length ≤ 0 := by omega
            clear h0
            go_wp2
            go_meet
            case rel => exact ⟨rfl, rfl⟩
          · have hq5 : q + 1 ≤ 5000 := by omega
            have jq1 : (0:Int) ≤ (q:Int) := by omega
            have jq2 : (q:Int) < (d.ents.length:Int) := by omega
            have jq3 : (d.ents.length:Int) - 1 = (q:Int) := by omega
            have k1 : decide (0 < d.ents.length) = true := decide_eq_true (by omega)
            clear h0
            go_wp2
            go_meet
            case rel => exact ⟨rfl, rfl⟩
      case rest =>
      obtain ⟨rfl, HWC⟩ := hcut
      have hwc := HWC.out
      subst hwc
      clear HWC HCA
      obtain ⟨wq, rfl⟩ : ∃ W, W = wc := ⟨wc, rfl⟩
      go_upto_region 13 with (fail)
      go_quiet (fail)
      have xn : Ext wq (wq.drewN nq) := Ext.of_drewN _ _
      have lq2 := LQ.out.ext xn
      have eq2 := EQ.out.ext xn
      have xq2 := XQ.out.tr xn
      clear LQ EQ XQ c1 c2 e0 e1 e2 e3
      generalize wq.drewN nq = wn at *
      have LQ := Lib.hid lq2
      have EQ := Lib.hid eq2
      have XQ := Lib.hid xq2
      clear lq2 eq2 xq2
      clear xn
      go_wp2
      go_loopw [7, 66] (fun s t wr => ∃ k : Nat, k ≤ 5 ∧ t = .int .i64 k ∧ Hid (s = .int .u64 (([(i:Int), (j:Int), xa, xd, d.key].take k).foldl stepI sg)) ∧ Hid (Ext wn wr)) (fun _ t _ => 5 - (intOf t).toNat)
      case atStart => exact ⟨0, Nat.zero_le _, rfl, rfl, Below.refl _ _⟩
      case round =>
        obtain ⟨k, hk, rfl, HS, HX⟩ := hrel
        have hs := HS.out
        subst hs
        clear HS
        rcases (show k = 0 ∨ k = 1 ∨ k = 2 ∨ k = 3 ∨ k = 4 ∨ k = 5 by omega) with rfl | rfl | rfl | rfl | rfl | rfl
        · go_wp2_with (first
            | (with_reducible refine wpList_index rfl rfl ?_ ?_ (idx5_0 (.int .u64 i) (.int .u64 j) (.int .u64 xa) (.int .u64 xd) (.int .u64 d.key)) ?_
               · rfl
               · rfl)
            | (go_at_call 36; refine (step_any _ _ _).mono ?_; rintro e w' ⟨rfl, rfl⟩))
          go_roundw
          case rel => exact ⟨1, by decide, rfl, rfl, HX.out⟩
          case measure => simp [intOf]
        · go_wp2_with (first
            | (with_reducible refine wpList_index rfl rfl ?_ ?_ (idx5_1 (.int .u64 i) (.int .u64 j) (.int .u64 xa) (.int .u64 xd) (.int .u64 d.key)) ?_
               · rfl
               · rfl)
            | (go_at_call 36; refine (step_any _ _ _).mono ?_; rintro e w' ⟨rfl, rfl⟩))
          go_roundw
          case rel => exact ⟨2, by decide, rfl, rfl, HX.out⟩
          case measure => simp [intOf]
        · go_wp2_with (first
            | (with_reducible refine wpList_index rfl rfl ?_ ?_ (idx5_2 (.int .u64 i) (.int .u64 j) (.int .u64 xa) (.int .u64 xd) (.int .u64 d.key)) ?_
               · rfl
               · rfl)
            | (go_at_call 36; refine (step_any _ _ _).mono ?_; rintro e w' ⟨rfl, rfl⟩))
          go_roundw
          case rel => exact ⟨3, by decide, rfl, rfl, HX.out⟩
          case measure => simp [intOf]
        · go_wp2_with (first
            | (with_reducible refine wpList_index rfl rfl ?_ ?_ (idx5_3 (.int .u64 i) (.int .u64 j) (.int .u64 xa) (.int .u64 xd) (.int .u64 d.key)) ?_
               · rfl
               · rfl)
            | (go_at_call 36; refine (step_any _ _ _).mono ?_; rintro e w' ⟨rfl, rfl⟩))
          go_roundw
          case rel => exact ⟨4, by decide, rfl, rfl, HX.out⟩
          case measure => simp [intOf]
        · go_wp2_with (first
            | (with_reducible refine wpList_index rfl rfl ?_ ?_ (idx5_4 (.int .u64 i) (.int .u64 j) (.int .u64 xa) (.int .u64 xd) (.int .u64 d.key)) ?_
               · rfl
               · rfl)
            | (go_at_call 36; refine (step_any _ _ _).mono ?_; rintro e w' ⟨rfl, rfl⟩))
          go_roundw
          case rel => exact ⟨5, by decide, rfl, rfl, HX.out⟩
          case measure => simp [intOf]
        obtain ⟨wp, hwp⟩ : ∃ W, W = wr := ⟨wr, rfl⟩
        subst hwp
        have hsg : (List.take 5 [(i:Int), (j:Int), xa, xd, d.key]).foldl stepI sg = signOf d ⟨i, j, xa, xd⟩ := by
          unfold signOf
          rw [HSG.out]
          dsimp only
          rw [uw_in i (by omega), uw_in j (by omega), uw_in xa (by omega), uw_in xd (by omega)]
          rfl
        rw [hsg]
        obtain ⟨si, hsi⟩ : ∃ s, s = signOf d ⟨i, j, xa, xd⟩ := ⟨_, rfl⟩
        rw [← hsi]
        have HSI := Lib.hid hsi
        clear hsg hsi
        have xp := XQ.out.tr HX.out
        have lp := LQ.out.ext HX.out
        have ep := EQ.out.ext HX.out
        clear LQ EQ XQ HX
        go_upto_region 18 with (fail)
        as_aux_lemma =>
          have hxd : Ext wp wp.drew := (Below.refl _ wp).drew
          have lp2 := lp.ext hxd
          have ep2 := ep.ext hxd
          have xp2 := xp.tr hxd
          have c2 := lp2.c2
          rw [VE.out] at c2
          refine wp_region_K (fun wx => wx.cell? ⟨lb, 2, none⟩ = some (.slice a d.ents.length c) ∧ (∀ q, wx.cell? ⟨eb, q, none⟩ = (#[.int .i64 i, .int .i64 j, .int .i64 xa, .int .i64 xd] : Array Value)[q]?)) 12 (by kernel_rfl) ⟨c2, ep2.cell⟩ (fun hHeld => ?_)
          generalize wp.drew = wA at *
          have LP := Lib.hid lp2
          have EP := Lib.hid ep2
          have XP := Lib.hid xp2
          clear lp2 ep2 xp2
          clear c2 hxd lp ep xp
          refine wpAnyK_takeL (i := 0) (v := ?_) rfl (by kernel_rfl) (by kernel_rfl) (by kernel_rfl) (by kernel_rfl) (fun _ _ _ h => h) (Or.inl ⟨by rfl, ?_⟩) hHeld ?_
          rotate_left
          · intro w hSw; (try dsimp only at hSw); go_simp; (try with_reducible rfl)
          try simp only [Act.put, List.setIfInBounds_toArray, List.set_cons_zero, List.set_cons_succ]
          refine wpAnyK_takeL (i := 1) (v := ?_) rfl (by kernel_rfl) (by kernel_rfl) (by kernel_rfl) (by kernel_rfl) (fun _ _ _ h => h) (Or.inl ⟨by rfl, ?_⟩) hHeld ?_
          rotate_left
          · intro w hSw; (try dsimp only at hSw); go_simp; (try with_reducible rfl)
          try simp only [Act.put, List.setIfInBounds_toArray, List.set_cons_zero, List.set_cons_succ]
          refine wpAnyK_takeL (i := 2) (v := ?_) rfl (by kernel_rfl) (by kernel_rfl) (by kernel_rfl) (by kernel_rfl) (fun _ _ _ h => h) (Or.inl ⟨by rfl, ?_⟩) hHeld ?_
          rotate_left
          · intro w hSw; (try dsimp only at hSw); go_simp; (try with_reducible rfl)
          try simp only [Act.put, List.setIfInBounds_toArray, List.set_cons_zero, List.set_cons_succ]
          refine wpAnyK_takeL (i := 3) (v := ?_) rfl (by kernel_rfl) (by kernel_rfl) (by kernel_rfl) (by kernel_rfl) (fun _ _ _ h => h) (Or.inl ⟨by rfl, ?_⟩) hHeld ?_
          rotate_left
          · intro w hSw; (try dsimp only at hSw); go_simp; (try with_reducible rfl)
          try simp only [Act.put, List.setIfInBounds_toArray, List.set_cons_zero, List.set_cons_succ]
          refine wpAnyK_takeL (i := 4) (v := ?_) rfl (by kernel_rfl) (by kernel_rfl) (by kernel_rfl) (by kernel_rfl) (fun _ _ _ h => h) (Or.inl ⟨by rfl, ?_⟩) hHeld ?_
          rotate_left
          · intro w hSw; (try dsimp only at hSw); go_simp; (try with_reducible rfl)
          try simp only [Act.put, List.setIfInBounds_toArray, List.set_cons_zero, List.set_cons_succ]
          refine wpAnyK_takeL (i := 5) (v := ?_) rfl (by kernel_rfl) (by kernel_rfl) (by kernel_rfl) (by kernel_rfl) (fun _ _ _ h => h) (Or.inl ⟨by rfl, ?_⟩) hHeld ?_
          rotate_left
          · intro w hSw; (try dsimp only at hSw); go_simp; (try with_reducible rfl)
          try simp only [Act.put, List.setIfInBounds_toArray, List.set_cons_zero, List.set_cons_succ]
          refine wpAnyK_takeL (i := 6) (v := ?_) rfl (by kernel_rfl) (by kernel_rfl) (by kernel_rfl) (by kernel_rfl) (fun _ _ _ h => h) (Or.inl ⟨by rfl, ?_⟩) hHeld ?_
          rotate_left
          · intro w hSw; (try dsimp only at hSw); go_simp; (try with_reducible rfl)
          try simp only [Act.put, List.setIfInBounds_toArray, List.set_cons_zero, List.set_cons_succ]
          refine wpAnyK_takeL (i := 7) (v := ?_) rfl (by kernel_rfl) (by kernel_rfl) (by kernel_rfl) (by kernel_rfl) (fun _ _ _ h => h) (Or.inl ⟨by rfl, ?_⟩) hHeld ?_
          rotate_left
          · intro w hSw; (try dsimp only at hSw); go_simp; (try with_reducible rfl)
          try simp only [Act.put, List.setIfInBounds_toArray, List.set_cons_zero, List.set_cons_succ]
          refine wpAnyK_ready (rs := [8]) (by kernel_rfl) (by simp) ?_
          refine AllReadyK.consL (i := 8) rfl (fun K hK => ?_) ?_
          · refine step_build1 tSigs rfl rfl (v := .agg #[.int .i64 i, .int .i64 j, .int .i64 xa, .int .i64 xd, .int .u64 si]) rfl [.int .i64 i, .int .i64 j, .int .i64 xa, .int .i64 xd, .int .u64 si] (by omega) rfl rfl ?_
            intro b1 wB hx hl hb hc
            have lp2 := LP.out.ext hx
            have ep2 := EP.out.ext hx
            have xp2 := XP.out.tr hx
            have c2 := lp2.c2
            rw [VE.out] at c2
            have hBB : B ≤ wB.heap.size := Nat.le_trans hB xp2.size
            clear LP EP XP
            have LP := Lib.hid lp2
            have EP := Lib.hid ep2
            have XP := Lib.hid xp2
            have L1 := Lib.hid hc
            clear lp2 ep2 xp2 hc
            clear hx hl hb
            refine hK.out _ _ (fun _ => ⟨c2, EP.out.cell⟩) (fun hHeld2 => ?_)
            clear hK K
            try clear hHeld
            have hHeld := hHeld2 (by decide)
            clear hHeld2
            try simp only [Act.put, List.setIfInBounds_toArray, List.set_cons_zero, List.set_cons_succ]
            clear c2
            have hown := LP.out.ents
            rw [VE.out] at hown
            have HOW := Lib.hid hown
            clear hown
            refine wpAnyK_ready (rs := [9]) (by kernel_rfl) (by simp) ?_
            refine AllReadyK.consL (i := 9) rfl (fun K hK => ?_) ?_
            · refine step_app tSigs (v := .slice a d.ents.length c) rfl rfl rfl HOW.out rfl (cs := [.int .i64 i, .int .i64 j, .int .i64 xa, .int .i64 xd, .int .u64 si]) rfl (by omega) L1.out (by simp [Value.oneCell']) (by omega) hBB ?_
              intro v' wC q1 q2 q3 q4
              obtain ⟨x3, y3, rfl⟩ := owns_form q1
              have q2' : wB.grownBy wC m.ve.ownBlock := by rw [VE.out]; exact q2
              have q3' : FreshOr wB m.ve (.slice x3 (d.ents.length + 1) y3) := by rw [VE.out]; exact q3
              have og := only_grown q2'
              have bl := LP.out.led.only og (fun hk => (LP.out.nve _ hk).1 rfl)
              have el := EP.out.only og (fun hk => NVE.out _ hk rfl)
              have c2 : wC.cell? ⟨lb, 2, none⟩ = some (.slice a d.ents.length c) := by
                rw [bl.cell]; rw [← VE.out]; rfl
              refine hK.out _ _ (fun _ => ⟨c2, el.cell⟩) (fun hHeld2 => ?_)
              clear hK K
              try clear hHeld
              have hHeld := hHeld2 (by decide)
              clear hHeld2
              try simp only [Act.put, List.setIfInBounds_toArray, List.set_cons_zero, List.set_cons_succ]
              clear c2
              have BL := Lib.hid bl
              have EL := Lib.hid el
              have Q1 := Lib.hid q1
              have Q2 := Lib.hid q2'
              have Q3 := Lib.hid q3'
              clear bl el q1 q2' q3'
              clear HOW L1 q2 q3 q4 og
              refine wpAnyK_takeL (i := 10) (v := ?_) rfl (by kernel_rfl) (by kernel_rfl) (by kernel_rfl) (by kernel_rfl) (fun _ _ _ h => h) (Or.inl ⟨by rfl, ?_⟩) hHeld ?_
              rotate_left
              · intro w hSw; (try dsimp only at hSw); go_simp; (try with_reducible rfl)
              try simp only [Act.put, List.setIfInBounds_toArray, List.set_cons_zero, List.set_cons_succ]
              refine wpAnyK_takeL (i := 11) (v := ?_) rfl (by kernel_rfl) (by kernel_rfl) (by kernel_rfl) (by kernel_rfl) (fun _ _ _ h => h) (Or.inl ⟨by rfl, ?_⟩) hHeld ?_
              rotate_left
              · intro w hSw; (try dsimp only at hSw); go_simp; (try with_reducible rfl)
              try simp only [Act.put, List.setIfInBounds_toArray, List.set_cons_zero, List.set_cons_succ]
              clear hHeld
              refine wpAnyK_ready (rs := [12]) (by kernel_rfl) (by simp) ?_
              refine AllReadyK.consL (i := 12) rfl (fun K hK => ?_) ?_
              · refine step_setK (v := .slice x3 (d.ents.length + 1) y3) rfl rfl BL.out rfl rfl (by rw [ledA_size]; decide) (by kernel_rfl) rfl (by simp [Value.oneCell']) ?_
                intro wD hw1 hb1 ho1
                refine hK.out _ _ (fun h => absurd h (by decide)) (fun hHeld2 => ?_)
                clear hK K hHeld2
                try clear hHeld
                try simp only [Act.put, List.setIfInBounds_toArray, List.set_cons_zero, List.set_cons_succ]
                refine wpAnyK_done (by kernel_rfl) ?_ _
                have bd2 : Blk wD lb ((ledA d m).setIfInBounds 2 (.slice x3 (d.ents.length + 1) y3)) 97 := hb1
                have ed2 := EL.out.only ho1 NEL.out
                clear BL EL hb1 hw1
                have HO1 := Lib.hid ho1
                clear ho1
                obtain ⟨yi, hyi⟩ : ∃ y, y = balA (i:Int) d.ents := ⟨_, rfl⟩
                obtain ⟨yj, hyj⟩ : ∃ y, y = balA (j:Int) d.ents := ⟨_, rfl⟩
                have bi1 := HBI.out
                have bj1 := HBJ.out
                rw [← hyi] at bi1
                rw [← hyj] at bj1
                obtain ⟨bi2, bi3⟩ := bi1
                obtain ⟨bj2, bj3⟩ := bj1
                have hgi : ((ledA d m).setIfInBounds 2 (.slice x3 (d.ents.length + 1) y3))[3 + i]? = some (.int .i64 yi) := by
                  rw [Array.getElem?_setIfInBounds_ne (by omega), ledA_get d m i i40, hyi]
                have hgj : (((ledA d m).setIfInBounds 2 (.slice x3 (d.ents.length + 1) y3)).setIfInBounds (3 + i) (.int .i64 (yi - xa)))[3 + j]? = some (.int .i64 yj) := by
                  rw [Array.getElem?_setIfInBounds_ne (by omega), Array.getElem?_setIfInBounds_ne (by omega), ledA_get d m j j40, hyj]
                have hsz : 3 + i < ((ledA d m).setIfInBounds 2 (.slice x3 (d.ents.length + 1) y3)).size := by
                  rw [Array.size_setIfInBounds, ledA_size]; omega
                have hsz2 : 3 + j < (((ledA d m).setIfInBounds 2 (.slice x3 (d.ents.length + 1) y3)).setIfInBounds (3 + i) (.int .i64 (yi - xa))).size := by
                  rw [Array.size_setIfInBounds, Array.size_setIfInBounds, ledA_size]; omega
                have HWI := Lib.hid (i64_eq (yi - xa) ⟨by omega, by omega⟩)
                have HWJ := Lib.hid (i64_eq (yj + xa) ⟨by omega, by omega⟩)
                have l40i : (i:Int) < 40 := by omega
                have l40j : (j:Int) < 40 := by omega
                have BD := Lib.hid bd2
                have ED := Lib.hid ed2
                have HYI := Lib.hid hyi
                have HYJ := Lib.hid hyj
                have HGI := Lib.hid hgi
                have HGJ := Lib.hid hgj
                have HSZ := Lib.hid hsz
                have HSZ2 := Lib.hid hsz2
                clear bd2 ed2 hyi hyj hgi hgj hsz hsz2
                go_upto_region 19 with (fail)
                have hxd : Ext wD wD.drew := (Below.refl _ wD).drew
                have bd2 := BD.out.ext hxd
                have ed2 := ED.out.ext hxd
                have ci := (bd2.cell (3 + i)).trans HGI.out
                refine wp_region_K (fun wx => wx.cell? ⟨lb, 3 + i, none⟩ = some (.int .i64 yi) ∧ (∀ q, wx.cell? ⟨eb, q, none⟩ = (#[.int .i64 i, .int .i64 j, .int .i64 xa, .int .i64 xd] : Array Value)[q]?)) 13 (by kernel_rfl) ⟨ci, ed2.cell⟩ (fun hHeld => ?_)
                have HOD := Lib.hid (HO1.out.tr (Only.of_ext hxd))
                generalize wD.drew = wE at *
                clear BD ED HO1 ci hxd
                have BD := Lib.hid bd2
                have ED := Lib.hid ed2
                clear bd2 ed2
                refine wpAnyK_takeL (i := 0) (v := ?_) rfl (by kernel_rfl) (by kernel_rfl) (by kernel_rfl) (by kernel_rfl) (fun _ _ _ h => h) (Or.inl ⟨by rfl, ?_⟩) hHeld ?_
                rotate_left
                · intro w hSw; (try dsimp only at hSw); go_simp; (try with_reducible rfl)
                try simp only [Act.put, List.setIfInBounds_toArray, List.set_cons_zero, List.set_cons_succ]
                refine wpAnyK_takeL (i := 1) (v := ?_) rfl (by kernel_rfl) (by kernel_rfl) (by kernel_rfl) (by kernel_rfl) (fun _ _ _ h => h) (Or.inl ⟨by rfl, ?_⟩) hHeld ?_
                rotate_left
                · intro w hSw; (try dsimp only at hSw); go_simp; (try with_reducible rfl)
                try simp only [Act.put, List.setIfInBounds_toArray, List.set_cons_zero, List.set_cons_succ]
                refine wpAnyK_takeL (i := 2) (v := ?_) rfl (by kernel_rfl) (by kernel_rfl) (by kernel_rfl) (by kernel_rfl) (fun _ _ _ h => h) (Or.inl ⟨by rfl, ?_⟩) hHeld ?_
                rotate_left
                · intro w hSw; (try dsimp only at hSw); go_simp; (try with_reducible rfl)
                try simp only [Act.put, List.setIfInBounds_toArray, List.set_cons_zero, List.set_cons_succ]
                refine wpAnyK_takeL (i := 3) (v := ?_) rfl (by kernel_rfl) (by kernel_rfl) (by kernel_rfl) (by kernel_rfl) (fun _ _ _ h => h) (Or.inl ⟨by rfl, ?_⟩) hHeld ?_
                rotate_left
                · intro w hSw; (try dsimp only at hSw); go_simp; (try with_reducible rfl)
                try simp only [Act.put, List.setIfInBounds_toArray, List.set_cons_zero, List.set_cons_succ]
                refine wpAnyK_takeL (i := 4) (v := ?_) rfl (by kernel_rfl) (by kernel_rfl) (by kernel_rfl) (by kernel_rfl) (fun _ _ _ h => h) (Or.inl ⟨by rfl, ?_⟩) hHeld ?_
                rotate_left
                · intro w hSw; (try dsimp only at hSw); go_simp; (try with_reducible rfl)
                try simp only [Act.put, List.setIfInBounds_toArray, List.set_cons_zero, List.set_cons_succ]
                refine wpAnyK_takeL (i := 5) (v := ?_) rfl (by kernel_rfl) (by kernel_rfl) (by kernel_rfl) (by kernel_rfl) (fun _ _ _ h => h) (Or.inl ⟨by rfl, ?_⟩) hHeld ?_
                rotate_left
                · intro w hSw; (try dsimp only at hSw); go_simp; (try with_reducible rfl)
                try simp only [Act.put, List.setIfInBounds_toArray, List.set_cons_zero, List.set_cons_succ]
                refine wpAnyK_takeL (i := 6) (v := ?_) rfl (by kernel_rfl) (by kernel_rfl) (by kernel_rfl) (by kernel_rfl) (fun _ _ _ h => h) (Or.inl ⟨by rfl, ?_⟩) hHeld ?_
                rotate_left
                · intro w hSw; (try dsimp only at hSw); go_simp; (try with_reducible rfl)
                try simp only [Act.put, List.setIfInBounds_toArray, List.set_cons_zero, List.set_cons_succ]
                refine wpAnyK_takeL (i := 7) (v := ?_) rfl (by kernel_rfl) (by kernel_rfl) (by kernel_rfl) (by kernel_rfl) (fun _ _ _ h => h) (Or.inl ⟨by rfl, ?_⟩) hHeld ?_
                rotate_left
                · intro w hSw; (try dsimp only at hSw); go_simp; (try with_reducible rfl)
                try simp only [Act.put, List.setIfInBounds_toArray, List.set_cons_zero, List.set_cons_succ]
                refine wpAnyK_takeL (i := 8) (v := ?_) rfl (by kernel_rfl) (by kernel_rfl) (by kernel_rfl) (by kernel_rfl) (fun _ _ _ h => h) (Or.inl ⟨by rfl, ?_⟩) hHeld ?_
                rotate_left
                · intro w hSw; (try dsimp only at hSw); go_simp; (try with_reducible rfl)
                try simp only [Act.put, List.setIfInBounds_toArray, List.set_cons_zero, List.set_cons_succ]
                refine wpAnyK_takeL (i := 9) (v := ?_) rfl (by kernel_rfl) (by kernel_rfl) (by kernel_rfl) (by kernel_rfl) (fun _ _ _ h => h) (Or.inl ⟨by rfl, ?_⟩) hHeld ?_
                rotate_left
                · intro w hSw; (try dsimp only at hSw); go_simp; (try with_reducible rfl)
                try simp only [Act.put, List.setIfInBounds_toArray, List.set_cons_zero, List.set_cons_succ]
                refine wpAnyK_takeL (i := 10) (v := ?_) rfl (by kernel_rfl) (by kernel_rfl) (by kernel_rfl) (by kernel_rfl) (fun _ _ _ h => h) (Or.inl ⟨by rfl, ?_⟩) hHeld ?_
                rotate_left
                · intro w hSw; (try dsimp only at hSw); go_simp; (try with_reducible rfl)
                try simp only [Act.put, List.setIfInBounds_toArray, List.set_cons_zero, List.set_cons_succ]
                refine wpAnyK_takeL (i := 11) (v := ?_) rfl (by kernel_rfl) (by kernel_rfl) (by kernel_rfl) (by kernel_rfl) (fun _ _ _ h => h) (Or.inl ⟨by rfl, ?_⟩) hHeld ?_
                rotate_left
                · intro w hSw; (try dsimp only at hSw); go_simp; (try with_reducible rfl)
                try simp only [Act.put, List.setIfInBounds_toArray, List.set_cons_zero, List.set_cons_succ]
                refine wpAnyK_takeL (i := 12) (v := ?_) rfl (by kernel_rfl) (by kernel_rfl) (by kernel_rfl) (by kernel_rfl) (fun _ _ _ h => h) (Or.inl ⟨by rfl, ?_⟩) hHeld ?_
                rotate_left
                · intro w hSw; (try dsimp only at hSw); go_simp; (try with_reducible rfl)
                try simp only [Act.put, List.setIfInBounds_toArray, List.set_cons_zero, List.set_cons_succ]
                clear hHeld
                refine wpAnyK_ready (rs := [13]) (by kernel_rfl) (by simp) ?_
                refine AllReadyK.consL (i := 13) rfl (fun K hK => ?_) ?_
                · refine step_setK (v := .int .i64 (IntKind.i64.wrap (yi - xa))) rfl rfl BD.out rfl rfl HSZ.out (by kernel_rfl) rfl (by simp [Value.oneCell']) ?_
                  intro wF hw1 hb1 ho1
                  rw [HWI.out] at hb1
                  refine hK.out _ _ (fun h => absurd h (by decide)) (fun hHeld2 => ?_)
                  clear hK K hHeld2
                  try clear hHeld
                  try simp only [Act.put, List.setIfInBounds_toArray, List.set_cons_zero, List.set_cons_succ]
                  refine wpAnyK_done (by kernel_rfl) ?_ _
                  have ed3 := ED.out.only ho1 NEL.out
                  have HO2 := Lib.hid (HOD.out.tr ho1)
                  clear BD ED HOD ho1 hw1
                  have BD := Lib.hid hb1
                  have ED := Lib.hid ed3
                  clear hb1 ed3
                  go_upto_region 20 with (fail)
                  have hxd : Ext wF wF.drew := (Below.refl _ wF).drew
                  have bd2 := BD.out.ext hxd
                  have ed2 := ED.out.ext hxd
                  have ci := (bd2.cell (3 + j)).trans HGJ.out
                  refine wp_region_K (fun wx => wx.cell? ⟨lb, 3 + j, none⟩ = some (.int .i64 yj) ∧ (∀ q, wx.cell? ⟨eb, q, none⟩ = (#[.int .i64 i, .int .i64 j, .int .i64 xa, .int .i64 xd] : Array Value)[q]?)) 13 (by kernel_rfl) ⟨ci, ed2.cell⟩ (fun hHeld => ?_)
                  have HOD := Lib.hid (HO2.out.tr (Only.of_ext hxd))
                  generalize wF.drew = wG at *
                  clear BD ED HO2 ci hxd
                  have BD := Lib.hid bd2
                  have ED := Lib.hid ed2
                  clear bd2 ed2
                  refine wpAnyK_takeL (i := 0) (v := ?_) rfl (by kernel_rfl) (by kernel_rfl) (by kernel_rfl) (by kernel_rfl) (fun _ _ _ h => h) (Or.inl ⟨by rfl, ?_⟩) hHeld ?_
                  rotate_left
                  · intro w hSw; (try dsimp only at hSw); go_simp; (try with_reducible rfl)
                  try simp only [Act.put, List.setIfInBounds_toArray, List.set_cons_zero, List.set_cons_succ]
                  refine wpAnyK_takeL (i := 1) (v := ?_) rfl (by kernel_rfl) (by kernel_rfl) (by kernel_rfl) (by kernel_rfl) (fun _ _ _ h => h) (Or.inl ⟨by rfl, ?_⟩) hHeld ?_
                  rotate_left
                  · intro w hSw; (try dsimp only at hSw); go_simp; (try with_reducible rfl)
                  try simp only [Act.put, List.setIfInBounds_toArray, List.set_cons_zero, List.set_cons_succ]
                  refine wpAnyK_takeL (i := 2) (v := ?_) rfl (by kernel_rfl) (by kernel_rfl) (by kernel_rfl) (by kernel_rfl) (fun _ _ _ h => h) (Or.inl ⟨by rfl, ?_⟩) hHeld ?_
                  rotate_left
                  · intro w hSw; (try dsimp only at hSw); go_simp; (try with_reducible rfl)
                  try simp only [Act.put, List.setIfInBounds_toArray, List.set_cons_zero, List.set_cons_succ]
                  refine wpAnyK_takeL (i := 3) (v := ?_) rfl (by kernel_rfl) (by kernel_rfl) (by kernel_rfl) (by kernel_rfl) (fun _ _ _ h => h) (Or.inl ⟨by rfl, ?_⟩) hHeld ?_
                  rotate_left
                  · intro w hSw; (try dsimp only at hSw); go_simp; (try with_reducible rfl)
                  try simp only [Act.put, List.setIfInBounds_toArray, List.set_cons_zero, List.set_cons_succ]
                  refine wpAnyK_takeL (i := 4) (v := ?_) rfl (by kernel_rfl) (by kernel_rfl) (by kernel_rfl) (by kernel_rfl) (fun _ _ _ h => h) (Or.inl ⟨by rfl, ?_⟩) hHeld ?_
                  rotate_left
                  · intro w hSw; (try dsimp only at hSw); go_simp; (try with_reducible rfl)
                  try simp only [Act.put, List.setIfInBounds_toArray, List.set_cons_zero, List.set_cons_succ]
                  refine wpAnyK_takeL (i := 5) (v := ?_) rfl (by kernel_rfl) (by kernel_rfl) (by kernel_rfl) (by kernel_rfl) (fun _ _ _ h => h) (Or.inl ⟨by rfl, ?_⟩) hHeld ?_
                  rotate_left
                  · intro w hSw; (try dsimp only at hSw); go_simp; (try with_reducible rfl)
                  try simp only [Act.put, List.setIfInBounds_toArray, List.set_cons_zero, List.set_cons_succ]
                  refine wpAnyK_takeL (i := 6) (v := ?_) rfl (by kernel_rfl) (by kernel_rfl) (by kernel_rfl) (by kernel_rfl) (fun _ _ _ h => h) (Or.inl ⟨by rfl, ?_⟩) hHeld ?_
                  rotate_left
                  · intro w hSw; (try dsimp only at hSw); go_simp; (try with_reducible rfl)
                  try simp only [Act.put, List.setIfInBounds_toArray, List.set_cons_zero, List.set_cons_succ]
                  refine wpAnyK_takeL (i := 7) (v := ?_) rfl (by kernel_rfl) (by kernel_rfl) (by kernel_rfl) (by kernel_rfl) (fun _ _ _ h => h) (Or.inl ⟨by rfl, ?_⟩) hHeld ?_
                  rotate_left
                  · intro w hSw; (try dsimp only at hSw); go_simp; (try with_reducible rfl)
                  try simp only [Act.put, List.setIfInBounds_toArray, List.set_cons_zero, List.set_cons_succ]
                  refine wpAnyK_takeL (i := 8) (v := ?_) rfl (by kernel_rfl) (by kernel_rfl) (by kernel_rfl) (by kernel_rfl) (fun _ _ _ h => h) (Or.inl ⟨by rfl, ?_⟩) hHeld ?_
                  rotate_left
                  · intro w hSw; (try dsimp only at hSw); go_simp; (try with_reducible rfl)
                  try simp only [Act.put, List.setIfInBounds_toArray, List.set_cons_zero, List.set_cons_succ]
                  refine wpAnyK_takeL (i := 9) (v := ?_) rfl (by kernel_rfl) (by kernel_rfl) (by kernel_rfl) (by kernel_rfl) (fun _ _ _ h => h) (Or.inl ⟨by rfl, ?_⟩) hHeld ?_
                  rotate_left
                  · intro w hSw; (try dsimp only at hSw); go_simp; (try with_reducible rfl)
                  try simp only [Act.put, List.setIfInBounds_toArray, List.set_cons_zero, List.set_cons_succ]
                  refine wpAnyK_takeL (i := 10) (v := ?_) rfl (by kernel_rfl) (by kernel_rfl) (by kernel_rfl) (by kernel_rfl) (fun _ _ _ h => h) (Or.inl ⟨by rfl, ?_⟩) hHeld ?_
                  rotate_left
                  · intro w hSw; (try dsimp only at hSw); go_simp; (try with_reducible rfl)
                  try simp only [Act.put, List.setIfInBounds_toArray, List.set_cons_zero, List.set_cons_succ]
                  refine wpAnyK_takeL (i := 11) (v := ?_) rfl (by kernel_rfl) (by kernel_rfl) (by kernel_rfl) (by kernel_rfl) (fun _ _ _ h => h) (Or.inl ⟨by rfl, ?_⟩) hHeld ?_
                  rotate_left
                  · intro w hSw; (try dsimp only at hSw); go_simp; (try with_reducible rfl)
                  try simp only [Act.put, List.setIfInBounds_toArray, List.set_cons_zero, List.set_cons_succ]
                  refine wpAnyK_takeL (i := 12) (v := ?_) rfl (by kernel_rfl) (by kernel_rfl) (by kernel_rfl) (by kernel_rfl) (fun _ _ _ h => h) (Or.inl ⟨by rfl, ?_⟩) hHeld ?_
                  rotate_left
                  · intro w hSw; (try dsimp only at hSw); go_simp; (try with_reducible rfl)
                  try simp only [Act.put, List.setIfInBounds_toArray, List.set_cons_zero, List.set_cons_succ]
                  clear hHeld
                  refine wpAnyK_ready (rs := [13]) (by kernel_rfl) (by simp) ?_
                  refine AllReadyK.consL (i := 13) rfl (fun K hK => ?_) ?_
                  · refine step_setK (v := .int .i64 (IntKind.i64.wrap (yj + xa))) rfl rfl BD.out rfl rfl HSZ2.out (by kernel_rfl) rfl (by simp [Value.oneCell']) ?_
                    intro wH hw1 hb1 ho1
                    rw [HWJ.out] at hb1
                    refine hK.out _ _ (fun h => absurd h (by decide)) (fun hHeld2 => ?_)
                    clear hK K hHeld2
                    try clear hHeld
                    try simp only [Act.put, List.setIfInBounds_toArray, List.set_cons_zero, List.set_cons_succ]
                    refine wpAnyK_done (by kernel_rfl) ?_ _
                    have HO3 := Lib.hid (HOD.out.tr ho1)
                    clear BD ED HOD ho1 hw1
                    have BD := Lib.hid hb1
                    clear hb1
                    go_wp2
                    go_ret
                    have q1 := Q1.out
                    have bd := BD.out
                    rw [HSI.out] at q1
                    rw [HYI.out, HYJ.out] at bd
                    have hps := LSt.posted (i := i) (j := j) (xa := xa) (xd := xd) LP.out OK.out hBB i40 j40 hij q1 Q2.out Q3.out bd HO3.out
                    refine HP.out _ _ ⟨ret_int HG.out.symm, .inr ⟨HG.out, _, hps.1, ?_, (Only.of_ext XP.out).tr hps.2⟩⟩
                    rcases Q3.out with hf | ⟨g, hg, hl⟩
                    · exact .inl hf
                    · exact .inr ⟨g, hg, Nat.le_trans XP.out.size hl⟩
                  · exact AllReadyK.nil
                · exact AllReadyK.nil
              · exact AllReadyK.nil
            · exact AllReadyK.nil
          · exact AllReadyK.nil
end Go.Proofs.Ytekplfbfkfiabaa
