/- RegisterKeeps: the walk. -/
import Derived.Test.YtafnadaahnkcmaaKeep2
import Derived.Test.YtafnadaahnkcmaaHold
import Derived.Test.YtafnadaahnkcmaaRows3
import Derived.Test.YtafnadaahnkcmaaRead
import Derived.Deep.DeepCutAuto
namespace Go.Proofs.Ytafnadaahnkcmaa
open Go.RowKit
set_option linter.unusedVariables false
set_option linter.unusedSimpArgs false

theorem tLoops : SliceT Try.prog 52 36 (.agg #[.int .i64 0, .int .i64 0, .int .i64 0, .int .i64 0]) 4 32 := ⟨by kernel_rfl, by kernel_rfl, rfl, by decide, by decide⟩
theorem tRows : SliceT Try.prog 53 22 (.slice none 0 0) 1 24 := ⟨by kernel_rfl, by kernel_rfl, rfl, by decide, by decide⟩

theorem owns_lit1 (w : World) (c : Value) (e : TypeId) : (w.alloc (.cells #[c] e)).ownsRow w.heap.size e 1 (.slice (some ⟨w.heap.size, 0, none⟩) 1 1) 1 [c] :=
  ⟨rfl, .inr ⟨_, 1, #[c], rfl, Nat.le_refl _, heap_alloc_new w _, Nat.le_refl _, by decide, rfl, rfl⟩⟩
/-- The loop that is being made. -/
def Made (p : Int) (wz W : World) (v : Value) : Prop := ∃ lb d nz, v = .pointer (some ⟨lb, 0, none⟩) ∧ (0 ≤ d ∧ d < 6 ∧ 0 ≤ nz ∧ nz < 51) ∧ Hid (Blk W lb #[.int .i64 d, .int .i64 nz, .int .i64 (2 * p), .int .i64 0] 36) ∧ Hid (Ext wz W) ∧ wz.heap.size ≤ lb
theorem Made.mk {p : Int} {wz W : World} {lb : Nat} {d nz : Int} (hb : Blk W lb #[.int .i64 d, .int .i64 nz, .int .i64 (2 * p), .int .i64 0] 36) (h1 : 0 ≤ d) (h2 : d < 6) (h3 : 0 ≤ nz) (h4 : nz < 51) (hx : Ext wz W) (hl : wz.heap.size ≤ lb) : Made p wz W (.pointer (some ⟨lb, 0, none⟩)) :=
  ⟨lb, d, nz, rfl, ⟨h1, h2, h3, h4⟩, hb, hx, hl⟩

/-- At the head of a copy. -/
def MInv (w1 : World) (n : Nat) (ls : List Loop) (e0 : Nat → Int) (p : Int) (db : Nat) (v7 v8 v9 v10 : Value) (t : Nat) (wr : World) : Prop :=
  ∃ d m ρ es ms mv σ, KInv n t ls e0 p d es ms ∧ DSt wr db d m ρ ∧ KSt w1.heap.size wr n n n n ls es ms mv v7 v8 v9 v10 σ ∧ (∀ b, σ b ≠ 0 → ρ b = 0) ∧ (∀ b, ρ b ≠ 0 → w1.heap.size ≤ b) ∧ Ext w1 wr

set_option maxRecDepth 100000 in
set_option maxHeartbeats 8000000 in
theorem keeps_true (z : Nat → Nat → Int) (n : Nat) (as_ : Option Addr) (cs0 : Nat) (blur : Int) (xs : List Int) (va : Value) (w : World) (hl : LIn w as_ n z) (hz : ∀ i j, I64 (z i j)) (hb : I64 blur) (hn : n ≤ 9223372036854775807) (ha : Ints w va xs) (hxb : ∀ x ∈ xs, I64 x) :
    Calls Try.prog 6 #[.slice as_ n cs0, .int .i64 blur, va] w fun x w' => x = .returned (.bool true) ∧ Ext w w' := by
  obtain ⟨aa, ca, rfl, HA⟩ := ha.form
  have hxlen := ha.len
  have hl0 : LIn w as_ n z := hl
  have HXB := Lib.hid hxb
  have HLI := Lib.hid hl0
  have HZ := Lib.hid hz
  have HB := Lib.hid hb
  clear hxb hl0 hz hb
  clear ha hl
  by_cases c1 : n < 1 ∨ 3 < n ∨ 400 < xs.length
  · go_enter Try.func6, Try.ntmps6
    have main : ∀ (b1 b2 b3 : Bool), decide ((n:Int) < 1) = b1 → decide ((3:Int) < n) = b2 → decide ((400:Int) < (xs.length:Int)) = b3 → (b1 = true ∨ b2 = true ∨ b3 = true) := fun b1 b2 b3 h1 h2 h3 => by
      rw [← h1, ← h2, ← h3]
      simp only [decide_eq_true_eq]
      omega
    by_cases d1 : n < 1
    · have e1 : decide ((n:Int) < 1) = true := decide_eq_true (by omega)
      go_wp2_with (go_at_call 9; refine (awake_true _).mono ?_; rintro x w4 ⟨rfl, hx4⟩; have HX4 := Lib.hid hx4; clear hx4)
      go_ret
      exact ⟨rfl, HX4.out⟩
    have e1 : decide ((n:Int) < 1) = false := decide_eq_false (by omega)
    by_cases d2 : 3 < n
    · have e2 : decide ((3:Int) < n) = true := decide_eq_true (by omega)
      go_wp2_with (go_at_call 9; refine (awake_true _).mono ?_; rintro x w4 ⟨rfl, hx4⟩; have HX4 := Lib.hid hx4; clear hx4)
      go_ret
      exact ⟨rfl, HX4.out⟩
    have e2 : decide ((3:Int) < n) = false := decide_eq_false (by omega)
    have e3 : decide ((400:Int) < (xs.length:Int)) = true := decide_eq_true (by omega)
    go_wp2_with (go_at_call 9; refine (awake_true _).mono ?_; rintro x w4 ⟨rfl, hx4⟩; have HX4 := Lib.hid hx4; clear hx4)
    go_ret
    exact ⟨rfl, HX4.out⟩
  have e1 : decide ((n:Int) < 1) = false := decide_eq_false (by omega)
  have e2 : decide ((3:Int) < n) = false := decide_eq_false (by omega)
  have e3 : decide ((400:Int) < (xs.length:Int)) = false := decide_eq_false (by omega)
  have n1 : 1 ≤ n := by omega
  have n3 : n ≤ 3 := by omega
  have hx4 : xs.length ≤ 400 := by omega
  clear c1
  obtain ⟨sb, so, rfl, hlc⟩ := HLI.out (by omega)
  have HLC := Lib.hid hlc
  clear hlc
  clear HLI
  go_enter Try.func6, Try.ntmps6
  go_upto_region 8 with (first
    | (go_at_call 19
       refine (pick_ex _ _ _ HB.out (by omega)).mono ?_
       rintro e w' ⟨p, rfl, p1, p2, rfl⟩))
  obtain ⟨w1, rfl⟩ : ∃ W, W = w' := ⟨w', rfl⟩
  have hx1 : Ext w1 (w1.alloc (.cells #[.int .i64 0] 3)) := ext_lit w1 _ _
  have k0 := KSt.start (owns_lit1 w1 (.int .i64 0) 3) hx1.size
  generalize w1.alloc (.cells #[.int .i64 0] 3) = w2 at *
  have HX2 := Lib.hid hx1
  have K0 := Lib.hid k0
  clear hx1 k0
  have hpp : p ≤ 100 := by omega
  go_wp2
  go_loopw [7, 8, 9, 10, 11] (fun v7 v8 v9 v10 t wr => ∃ k : Nat, k ≤ n ∧ t = .int .i64 k ∧ Hid (∃ ls es σ, KSt w1.heap.size wr k k k k ls es (fun _ => []) (fun _ => .slice none 0 0) v7 v8 v9 v10 σ ∧ ls.length = k ∧ LsOk p ls es) ∧ Hid (Ext w1 wr)) (fun _ _ _ _ t _ => n - (intOf t).toNat)
  case atStart => exact ⟨0, Nat.zero_le _, rfl, ⟨_, _, _, K0.out, rfl, fun i hi => (by cases hi)⟩, HX2.out⟩
  case round =>
    obtain ⟨k, hk, rfl, HK, HX⟩ := hrel
    by_cases hlt : k < n
    · skip
      as_aux_lemma =>
        obtain ⟨ls, es, σ, hks, hll, hlk⟩ := HK.out
        obtain ⟨a7, q7, rfl⟩ := row_form hks.pat.1
        obtain ⟨a8, q8, rfl⟩ := row_form hks.lps.1
        obtain ⟨a9, q9, rfl⟩ := row_form hks.err.1
        obtain ⟨a10, q10, rfl⟩ := row_form hks.mov.1
        have KS := Lib.hid hks
        have HLL := Lib.hid hll
        have HLK := Lib.hid hlk
        clear hks hll hlk
        clear HK
        have hlin : ∀ i j, i < n → j < 3 → wr.cell? ⟨sb, so + i * 3 + j, none⟩ = some (.int .i64 (z i j)) := fun i j hi hj => HX.out.cellSome (HLC.out i j hi hj)
        have HLW := Lib.hid hlin
        clear hlin
        obtain ⟨wz, rfl⟩ : ∃ W, W = wr := ⟨wr, rfl⟩
        go_upto_region 11 with (fail)
        go_cut [12] (fun v W => Made p wz W v)
        case first =>
          have g0 := HLW.out k 0 hlt (by omega)
          have g1 := HLW.out k 1 hlt (by omega)
          have hw2 : IntKind.i64.wrap (2 * p) = 2 * p := i64_eq _ (by omega)
          go_region_held3 (fun wx => wx.cell? ⟨sb, so + k * 3, none⟩ = some (.int .i64 (z k 0)) ∧ wx.cell? ⟨sb, so + k * 3 + 1, none⟩ = some (.int .i64 (z k 1)))
            ((first | exact ⟨g0, g1⟩ | exact ⟨(((ext_lit wz _ _).tr (Below.refl _ _).drew)).cellSome g0, (((ext_lit wz _ _).tr (Below.refl _ _).drew)).cellSome g1⟩ | skip))
            ((first
              | (go_at_call 19
                 refine (pick_ex _ _ _ (HZ.out _ _) (by omega)).mono ?_
                 rintro e w' ⟨u, rfl, u1, u2, rfl⟩)))
          all_goals
            go_wp2
            go_meet
            case rel =>
              exact Made.mk (Blk.ext (heap_alloc_new wz _) (Below.refl _ _).drew) (by assumption) (by assumption) (by assumption) (by assumption) ((ext_lit wz _ _).tr (Below.refl _ _).drew) (Nat.le_refl _)
        case rest =>
          obtain ⟨lb, d, nz, rfl, ⟨d1, d2, z1, z2⟩, LB, HXL, hlb⟩ := hcut
          obtain ⟨wl, rfl⟩ : ∃ W, W = wc := ⟨wc, rfl⟩
          go_upto_region 12 with (fail)
          go_cut [] (fun W => ∃ s, (1 ≤ s ∧ nz + 2 * (2 * p) ≤ s ∧ s ≤ 1000) ∧ Hid (Blk W lb #[.int .i64 d, .int .i64 nz, .int .i64 (2 * p), .int .i64 s] 36) ∧ Hid (Only (fun b => b = lb) wl W))
          case first =>
            have hxd : Ext wl wl.drew := (Below.refl _ wl).drew
            have hbd := LB.out.ext hxd
            have g2 := ((HXL.out.tr hxd).cellSome (HLW.out k 2 hlt (by omega)))
            refine wp_region_K (fun wx => (wx.cell? ⟨lb, 1, none⟩ = some (.int .i64 nz) ∧ wx.cell? ⟨lb, 2, none⟩ = some (.int .i64 (2 * p))) ∧ wx.cell? ⟨sb, so + k * 3 + 2, none⟩ = some (.int .i64 (z k 2))) 14 (by kernel_rfl) ⟨⟨hbd.cell 1, hbd.cell 2⟩, g2⟩ (fun hHeld => ?_)
            generalize wl.drew = wA at *
            have HBD := Lib.hid hbd
            have HXD := Lib.hid hxd
            clear hbd hxd
            refine wpAnyK_takeL (i := 0) (v := ?_) rfl (by kernel_rfl) (by kernel_rfl) (by kernel_rfl) (by kernel_rfl) (fun _ _ _ h => h) (Or.inl ⟨by rfl, ?_⟩) hHeld ?_
            rotate_left
            · intro w hSw; (try dsimp only at hSw); go_simp; (try with_reducible rfl)
            try simp only [Act.put, List.setIfInBounds_toArray, List.set_cons_zero, List.set_cons_succ]
            refine wpAnyK_takeL (i := 1) (v := ?_) rfl (by kernel_rfl) (by kernel_rfl) (by kernel_rfl) (by kernel_rfl) (fun _ _ _ h => h) (Or.inl ⟨by rfl, ?_⟩) hHeld ?_
            rotate_left
            · intro w hSw; (try dsimp only at hSw); go_simp; (try with_reducible rfl)
            try simp only [Act.put, List.setIfInBounds_toArray, List.set_cons_zero, List.set_cons_succ]
            refine wpAnyK_takeL (i := 2) (v := ?_) rfl (by kernel_rfl) (by kernel_rfl) (by kernel_rfl) (by kernel_rfl) (fun _ _ _ h => h) (Or.inl ⟨by rfl, ?_⟩) hHeld ?_
            rotate_left
            · intro w hSw; (try dsimp only at hSw); go_simp; (try with_reducible rfl)
            try simp only [Act.put, List.setIfInBounds_toArray, List.set_cons_zero, List.set_cons_succ]
            refine wpAnyK_takeL (i := 3) (v := ?_) rfl (by kernel_rfl) (by kernel_rfl) (by kernel_rfl) (by kernel_rfl) (fun _ _ _ h => h) (Or.inl ⟨by rfl, ?_⟩) hHeld ?_
            rotate_left
            · intro w hSw; (try dsimp only at hSw); go_simp; (try with_reducible rfl)
            try simp only [Act.put, List.setIfInBounds_toArray, List.set_cons_zero, List.set_cons_succ]
            refine wpAnyK_takeL (i := 4) (v := ?_) rfl (by kernel_rfl) (by kernel_rfl) (by kernel_rfl) (by kernel_rfl) (fun _ _ _ h => h) (Or.inl ⟨by rfl, ?_⟩) hHeld ?_
            rotate_left
            · intro w hSw; (try dsimp only at hSw); go_simp; (try with_reducible rfl)
            try simp only [Act.put, List.setIfInBounds_toArray, List.set_cons_zero, List.set_cons_succ]
            refine wpAnyK_takeL (i := 5) (v := ?_) rfl (by kernel_rfl) (by kernel_rfl) (by kernel_rfl) (by kernel_rfl) (fun _ _ _ h => h) (Or.inl ⟨by rfl, ?_⟩) hHeld ?_
            rotate_left
            · intro w hSw; (try dsimp only at hSw); go_simp; (try with_reducible rfl)
            try simp only [Act.put, List.setIfInBounds_toArray, List.set_cons_zero, List.set_cons_succ]
            refine wpAnyK_takeL (i := 6) (v := ?_) rfl (by kernel_rfl) (by kernel_rfl) (by kernel_rfl) (by kernel_rfl) (fun _ _ _ h => h) (Or.inl ⟨by rfl, ?_⟩) hHeld ?_
            rotate_left
            · intro w hSw; (try dsimp only at hSw); go_simp; (try with_reducible rfl)
            try simp only [Act.put, List.setIfInBounds_toArray, List.set_cons_zero, List.set_cons_succ]
            refine wpAnyK_takeL (i := 7) (v := ?_) rfl (by kernel_rfl) (by kernel_rfl) (by kernel_rfl) (by kernel_rfl) (fun _ _ _ h => h) (Or.inl ⟨by rfl, ?_⟩) hHeld ?_
            rotate_left
            · intro w hSw; (try dsimp only at hSw); go_simp; (try with_reducible rfl)
            try simp only [Act.put, List.setIfInBounds_toArray, List.set_cons_zero, List.set_cons_succ]
            refine wpAnyK_takeL (i := 8) (v := ?_) rfl (by kernel_rfl) (by kernel_rfl) (by kernel_rfl) (by kernel_rfl) (fun _ _ _ h => h) (Or.inl ⟨by rfl, ?_⟩) hHeld ?_
            rotate_left
            · intro w hSw; (try dsimp only at hSw); go_simp; (try with_reducible rfl)
            try simp only [Act.put, List.setIfInBounds_toArray, List.set_cons_zero, List.set_cons_succ]
            refine wpAnyK_takeL (i := 9) (v := ?_) rfl (by kernel_rfl) (by kernel_rfl) (by kernel_rfl) (by kernel_rfl) (fun _ _ _ h => h) (Or.inl ⟨by rfl, ?_⟩) hHeld ?_
            rotate_left
            · intro w hSw; (try dsimp only at hSw); go_simp; (try with_reducible rfl)
            try simp only [Act.put, List.setIfInBounds_toArray, List.set_cons_zero, List.set_cons_succ]
            refine wpAnyK_takeL (i := 10) (v := ?_) rfl (by kernel_rfl) (by kernel_rfl) (by kernel_rfl) (by kernel_rfl) (fun _ _ _ h => h) (Or.inl ⟨by rfl, ?_⟩) hHeld ?_
            rotate_left
            · intro w hSw; (try dsimp only at hSw); go_simp; (try with_reducible rfl)
            try simp only [Act.put, List.setIfInBounds_toArray, List.set_cons_zero, List.set_cons_succ]
            refine wpAnyK_takeL (i := 11) (v := ?_) rfl (by kernel_rfl) (by kernel_rfl) (by kernel_rfl) (by kernel_rfl) (fun _ _ _ h => h) (Or.inl ⟨by rfl, ?_⟩) hHeld ?_
            rotate_left
            · intro w hSw; (try dsimp only at hSw); go_simp; (try with_reducible rfl)
            try simp only [Act.put, List.setIfInBounds_toArray, List.set_cons_zero, List.set_cons_succ]
            refine wpAnyK_ready (rs := [12]) (by kernel_rfl) (by simp) ?_
            refine AllReadyK.consL (i := 12) rfl (fun K hK => ?_) ?_
            · go_simp
              go_at_call 19
              refine (pick_ex _ _ _ (HZ.out _ _) (by omega)).mono ?_
              rintro e wq ⟨u, rfl, u1, u2, rfl⟩
              dsimp only
              refine hK.out _ _ (fun _ => ⟨⟨HBD.out.cell 1, HBD.out.cell 2⟩, hHeld.2⟩) (fun hHeld2 => ?_)
              clear hK K
              try clear hHeld
              have hHeld := hHeld2 (by decide)
              clear hHeld2
              try simp only [Act.put, List.setIfInBounds_toArray, List.set_cons_zero, List.set_cons_succ]
              refine wpAnyK_takeL (i := 13) (v := ?_) rfl (by kernel_rfl) (by kernel_rfl) (by kernel_rfl) (by kernel_rfl) (fun _ _ _ h => h) (Or.inl ⟨by rfl, ?_⟩) hHeld ?_
              rotate_left
              · intro w hSw; (try dsimp only at hSw); go_simp; (try with_reducible rfl)
              try simp only [Act.put, List.setIfInBounds_toArray, List.set_cons_zero, List.set_cons_succ]
              refine wpAnyK_ready (rs := [14]) (by kernel_rfl) (by simp) ?_
              refine AllReadyK.consL (i := 14) rfl (fun K hK => ?_) ?_
              · go_simp
                refine hK.out _ _ (fun h => absurd h (by decide)) (fun hHeld2 => ?_)
                clear hK K hHeld2
                try clear hHeld
                try simp only [Act.put, List.setIfInBounds_toArray, List.set_cons_zero, List.set_cons_succ]
                refine wpAnyK_ready (rs := [15]) (by kernel_rfl) (by simp) ?_
                refine AllReadyK.consL (i := 15) rfl (fun K hK => ?_) ?_
                · refine step_setK (v := .int .i64 _) rfl rfl HBD.out rfl rfl (by simp) (by kernel_rfl) rfl (by simp [Value.oneCell']) ?_
                  intro w9 hw9 hb9 ho9
                  have HW9 := Lib.hid hw9
                  have HB9 := Lib.hid hb9
                  have HO9 := Lib.hid ho9
                  clear hw9 hb9 ho9
                  refine hK.out _ _ (fun h => absurd h (by decide)) (fun hHeld2 => ?_)
                  clear hK K hHeld2
                  try clear hHeld
                  try simp only [Act.put, List.setIfInBounds_toArray, List.set_cons_zero, List.set_cons_succ]
                  refine wpAnyK_done (by kernel_rfl) ?_ _
                  have hb9 := HB9.out
                  rw [i64_eq (2 * (2 * p)) (by omega), i64_eq (nz + 2 * (2 * p)) (by omega)] at hb9
                  rw [i64_eq _ (by split <;> omega)] at hb9
                  have ho9 := (Only.of_ext HXD.out).tr HO9.out
                  have HB10 := Lib.hid hb9
                  have HO10 := Lib.hid ho9
                  clear hb9 ho9
                  clear HB9 HO9 HW9
                  go_wp2
                  all_goals
                    go_meet
                    case rel => exact ⟨_, by split <;> omega, HB10.out, HO10.out⟩
                · exact AllReadyK.nil
              · exact AllReadyK.nil
            · exact AllReadyK.nil
          case rest =>
            obtain ⟨s, ⟨s1, s2, s3⟩, LB1, HO1⟩ := hcut
            obtain ⟨wy, rfl⟩ : ∃ W, W = wc := ⟨wc, rfl⟩
            have hl0 : σ lb = 0 := Decidable.byContradiction fun h => by have := KS.out.hlt lb h; omega
            have k1 := (KS.out.ext HXL.out).only HO1.out (fun b hb => by rw [hb]; exact hl0)
            have x1 : Ext w1 wy := (HX.out.tr HXL.out).then_only HO1.out (fun b hb => by have := HX.out.size; omega)
            have e1 : IntKind.i64.wrap ((k:Int) + 1) = (k:Int) + 1 := i64_eq _ (by omega)
            have e2 : IntKind.i64.wrap (30000 * ((k:Int) + 1)) = 30000 * ((k:Int) + 1) := i64_eq _ (by omega)
            have e3 : IntKind.i64.wrap (s - 2 * p) = s - 2 * p := i64_eq _ (by omega)
            have c1 := LB1.out.cell
            have K1 := Lib.hid k1
            have X1 := Lib.hid x1
            have L1 := Lib.hid hl0
            clear k1 x1 hl0
            clear KS HXL HO1 HX HLW
            go_upto_region 16 with (first
              | (at_builtin
                 refine wpList_app tInts rfl rfl (v := .slice a7 (k + 1) q7) rfl (owns_ext K1.out.pat.1 (ext_lit _ _ _)) rfl (Src.lit _ [.int .i64 (30000 * ((k:Int) + 1))] 1 1 rfl 3 1) (by simp [Value.oneCell']) (by omega) (Nat.zero_le _) ?_
                 rintro v7 w7 t1 t2 t3
                 obtain ⟨x7, y7, rfl⟩ := row_form t1
                 obtain ⟨σ7, ks, hold, hon⟩ := K1.out.app1 (ext_lit _ _ _) t1 t2 t3
                 have lb7 := LB1.out.only hon (fun h => h L1.out)
                 have l7 := (hold lb LB1.out.lt).trans L1.out
                 have xt7 := X1.out.then_only hon (fun b hb => K1.out.hlo b hb)
                 have c7 := lb7.cell
                 have K7 := Lib.hid ks
                 have LB7 := Lib.hid lb7
                 have L7 := Lib.hid l7
                 have X7 := Lib.hid xt7
                 clear ks lb7 l7 xt7
                 clear K1 LB1 L1 X1 t1 t2 t3 hold c1)
              | (at_builtin
                 refine wpList_app tLoops rfl rfl (v := .slice a8 k q8) rfl (owns_ext K7.out.lps.1 (ext_lit _ _ _)) rfl (Src.lit _ [.int .i64 d, .int .i64 nz, .int .i64 (2 * p), .int .i64 s] 1 4 rfl 36 1) (by simp [Value.oneCell']) (by omega) (Nat.zero_le _) ?_
                 rintro v8 w8 t1 t2 t3
                 obtain ⟨x8, y8, rfl⟩ := row_form t1
                 obtain ⟨σ8, ks, hold, hon⟩ := K7.out.app2 (x := ⟨d, nz, 2 * p, s⟩) HLL.out (ext_lit _ _ _) t1 t2 t3
                 have lb8 := LB7.out.only hon (fun h => h L7.out)
                 have l8 := (hold lb LB7.out.lt).trans L7.out
                 have xt8 := X7.out.then_only hon (fun b hb => K7.out.hlo b hb)
                 have c8 := lb8.cell
                 have K8 := Lib.hid ks
                 have X8 := Lib.hid xt8
                 clear ks xt8
                 clear K7 LB7 L7 X7 t1 t2 t3 hold c7))
            have g2 : w8.cell? ⟨sb, so + k * 3 + 2, none⟩ = some (.int .i64 (z k 2)) := X8.out.cellSome (HLC.out k 2 hlt (by omega))
            have e4 : IntKind.i64.wrap (2 * (s - 2 * p)) = 2 * (s - 2 * p) := i64_eq _ (by omega)
            have e5 : IntKind.i64.wrap (2 * (s - 2 * p) + 1) = 2 * (s - 2 * p) + 1 := i64_eq _ (by omega)
            clear c8 lb8 l8 e2 e3
            go_wp2_with (first
              | (go_at_call 19
                 refine (pick_ex _ _ _ (HZ.out _ _) (by omega)).mono ?_
                 rintro e w' ⟨v, rfl, v1, v2, rfl⟩
                 have e6 : IntKind.i64.wrap (v - (s - 2 * p)) = v - (s - 2 * p) := i64_eq _ (by omega))
              | (at_builtin
                 refine wpList_app tInts rfl rfl (v := .slice a9 k q9) rfl (owns_ext K8.out.err.1 (ext_lit _ _ _)) rfl (Src.lit _ [.int .i64 (v - (s - 2 * p))] 1 1 rfl 3 1) (by simp [Value.oneCell']) (by omega) (Nat.zero_le _) ?_
                 rintro v9 w9 t1 t2 t3
                 obtain ⟨x9, y9, rfl⟩ := row_form t1
                 obtain ⟨σ9, ks, hold, hon⟩ := K8.out.app3 (ext_lit _ _ _) t1 t2 t3
                 have xt9 := X8.out.then_only hon (fun b hb => K8.out.hlo b hb)
                 have K9 := Lib.hid ks
                 have X9 := Lib.hid xt9
                 clear ks xt9
                 clear K8 X8 t1 t2 t3 hold hon)
              | (at_builtin
                 refine wpList_app tRows rfl rfl (v := .slice a10 k q10) rfl (owns_ext K9.out.mov.1 (ext_lit _ _ _)) rfl (Src.lit _ [.slice none 0 0] 1 1 rfl 22 1) (by simp [Value.oneCell']) (by omega) (Nat.zero_le _) ?_
                 rintro v10 w10 t1 t2 t3
                 obtain ⟨σ10, ks, hold, hon⟩ := K9.out.app4 (ext_lit _ _ _) t1 t2 t3
                 have xt10 := X9.out.then_only hon (fun b hb => K9.out.hlo b hb)
                 have K10 := Lib.hid ks
                 have X10 := Lib.hid xt10
                 clear ks xt10
                 clear K9 X9 t1 t2 t3 hold hon))
            go_roundw
            case rel =>
              refine ⟨k + 1, by omega, by go_num, ⟨_, _, _, K10.out, by rw [List.length_append, HLL.out]; rfl, ?_⟩, X10.out⟩
              exact HLK.out.snoc HLL.out ⟨d, nz, 2 * p, s⟩ (v - (s - 2 * p)) (by unfold Loop.Ok; dsimp only; omega) (by dsimp only; omega) (by dsimp only; omega) rfl (by dsimp only; omega) (by omega)
            case measure => simp [intOf]; omega
    · obtain rfl : n = k := by omega
      as_aux_lemma =>
        obtain ⟨ls, e0, σ, hks, hll, hlk⟩ := HK.out
        obtain ⟨b7, q7, rfl⟩ := row_pos hks.pat.1 (by omega)
        obtain ⟨b8, q8, rfl⟩ := row_pos hks.lps.1 (by omega)
        obtain ⟨b9, q9, rfl⟩ := row_pos hks.err.1 (by omega)
        obtain ⟨b10, q10, rfl⟩ := row_pos hks.mov.1 (by omega)
        have hki := KInv.start n1 n3 hll hlk
        have hnew : Calls Try.prog 20 #[.slice (some ⟨b7, 0, none⟩) (n + 1) q7, .slice (some ⟨b8, 0, none⟩) n q8, .int .i64 5000, .int .i64 1000000] wr fun e w' => ∃ db m ρ, e = .returned (.tuple #[.pointer (some ⟨db, 0, none⟩), .int .i64 0]) ∧ DSt w' db (newD (kPat n) ls 5000 1000000) m ρ ∧ (∀ b, b < wr.heap.size → ρ b = 0) ∧ Ext wr w' := by
          have hp0 := Row.ints (xs := kPat n) hks.pat
          refine (new_any (kPat n) ls 5000 1000000 _ _ wr hp0 (fun x hx => ?_) (by unfold I64; omega) (by unfold I64; omega) (lps_in hks.lps hll n3) (by rw [kPat_len]; omega)).mono fun e w' h => ?_
          · obtain ⟨i, hi, rfl⟩ := List.mem_iff_getElem.1 hx
            rw [kPat_get]; have : i < n + 1 := by rwa [kPat_len] at hi
            unfold I64; omega
          · rcases h with ⟨h, _⟩ | ⟨_, db, m, ρ, h1, h2, h3, h4⟩
            · exact (h (kNew n ls n1 n3 hll fun i hi => (hlk i hi).1)).elim
            · exact ⟨db, m, ρ, h1, h2, h3, h4⟩
        have KS := Lib.hid hks
        have HLL := Lib.hid hll
        have HLK := Lib.hid hlk
        have KI := Lib.hid hki
        have HNEW := Lib.hid hnew
        clear hks hll hlk hki hnew
        clear HK HX2 K0
        go_upto_region 21 with (
          go_at_call 20
          refine HNEW.out.mono ?_
          rintro e w3 ⟨db, m, ρ, rfl, hds, hz, hx⟩
          have xt := HX.out.tr hx
          have ks := KS.out.ext hx
          have hsr : ∀ b, σ b ≠ 0 → ρ b = 0 := fun b hb => hz b (KS.out.hlt b hb)
          have hrb : ∀ b, ρ b ≠ 0 → w1.heap.size ≤ b := fun b hb => Decidable.byContradiction fun h => hb (hz b (by have := HX.out.size; omega))
          have DS := Lib.hid hds
          have X3 := Lib.hid xt
          have KS3 := Lib.hid ks
          have HSR := Lib.hid hsr
          have HRB := Lib.hid hrb
          clear hds xt ks hsr hrb
          clear hx hz)
        go_wp2
        go_loopw [16] (fun t wr => ∃ k : Nat, k ≤ 30 ∧ t = .int .i64 k ∧ Hid (MInv w1 n ls e0 p db (.slice (some ⟨b7, 0, none⟩) (n + 1) q7) (.slice (some ⟨b8, 0, none⟩) n q8) (.slice (some ⟨b9, 0, none⟩) n q9) (.slice (some ⟨b10, 0, none⟩) n q10) k wr)) (fun t _ => 30 - (intOf t).toNat)
        case atStart => exact ⟨0, Nat.zero_le _, rfl, _, _, _, _, _, _, _, KI.out, DS.out, KS3.out, HSR.out, HRB.out, X3.out⟩
        case round =>
          obtain ⟨k, hk, rfl, HM⟩ := hrel
          by_cases hlt : k < 30
          · skip
            as_aux_lemma =>
              obtain ⟨d, m, ρ, es, ms, mv, σk, hki, hds, hks, hsr, hrb, hx⟩ := HM.out
              obtain ⟨w5, rfl⟩ : ∃ W, W = wr := ⟨wr, rfl⟩
              have ha5 := HA.out.ext hx
              have e8 : IntKind.i64.wrap (8 * (k:Int)) = 8 * (k:Int) := i64_eq _ (by omega)
              have KI := Lib.hid hki
              have DS := Lib.hid hds
              have KS := Lib.hid hks
              have HSR := Lib.hid hsr
              have HRB := Lib.hid hrb
              have HX5 := Lib.hid hx
              have HA5 := Lib.hid ha5
              clear hki hds hks hsr hrb hx ha5
              clear HM
              go_upto_region 25 with (
                go_at_call 18
                refine (numbers_ex xs _ 8 1000 (8 * (k:Int)) w5 HA5.out (by omega) HXB.out (by omega) (by omega) (by omega)).mono ?_
                rintro e w6 ⟨v17, ns, rfl, ho6, hl6, hn6, hx6⟩
                have ho8 : w6.ownsRow w5.heap.size 3 1 v17 8 (ns.map (.int .i64)) := ho6
                have hl8 : ns.length = 8 := hl6
                obtain ⟨gn, qn, rfl⟩ := row_pos ho8 (by omega)
                have hc17 : ∀ j, j < 8 → w6.cell? ⟨gn, j, none⟩ = some (.int .i64 (gD ns j)) := fun j hj => owns_at ho8 rfl j _ (map_gD (by omega))
                have HO6 := Lib.hid ho8
                have HL6 := Lib.hid hl8
                have HN6 := Lib.hid hn6
                have HX6 := Lib.hid hx6
                have HC6 := Lib.hid hc17
                clear ho8 hl8 hn6 hx6 hc17
                clear ho6 hl6)
              have hb17 := fun j => gD_bd (B := 1000) (by omega) HN6.out j
              obtain ⟨x0, hx0⟩ : ∃ x, x = gD ns 0 := ⟨_, rfl⟩
              obtain ⟨x1, hx1⟩ : ∃ x, x = gD ns 1 := ⟨_, rfl⟩
              have k0 := HC6.out 0 (by omega)
              have k1 := HC6.out 1 (by omega)
              have b0 := hb17 0
              have b1 := hb17 1
              rw [← hx0] at k0 b0
              rw [← hx1] at k1 b1
              obtain ⟨b01, b02⟩ := b0
              obtain ⟨b11, b12⟩ := b1
              have hm1 : -(1000 * p) ≤ x1 * p ∧ x1 * p ≤ 1000 * p := ⟨by have := Int.mul_le_mul_of_nonneg_right b11 p1; omega, by have := Int.mul_le_mul_of_nonneg_right b12 p1; omega⟩
              have e9 : IntKind.i64.wrap (x1 * p) = x1 * p := i64_eq _ (by omega)
              have hkey := tdiv_bd x1 p p1 ⟨b11, b12⟩
              have HB17 := Lib.hid hb17
              clear hb17
              clear hx0 hx1
              go_upto_region 27 with (fail)
              obtain ⟨key, hky⟩ : ∃ y, (x1 * p).tdiv 1000 = y := ⟨_, rfl⟩
              obtain ⟨sh, hsh⟩ : ∃ y, x0.tdiv 3 = y := ⟨_, rfl⟩
              rw [hky] at hkey
              obtain ⟨hkey1, hkey2⟩ := hkey
              have hshb : -400 ≤ sh ∧ sh ≤ 400 := by rw [← hsh]; exact tdiv3_bd x0 ⟨b01, b02⟩
              obtain ⟨sh1, sh2⟩ := hshb
              rw [hky, hsh]
              have e11 : IntKind.i64.wrap (sh + key) = sh + key := i64_eq _ (by omega)
              have HKY := Lib.hid hky
              have HSH := Lib.hid hsh
              clear hky hsh
              clear k0 k1 e9 e8 hm1 b01 b02 b11 b12
              go_upto_region 28 with (fail)
              have ho20 := owns_lit1 w6 (.int .i64 (sh + key)) 3
              have hx7 : Ext w6 (w6.alloc (.cells #[.int .i64 (sh + key)] 3)) := ext_lit w6 _ _
              generalize w6.alloc (.cells #[.int .i64 (sh + key)] 3) = w7 at *
              obtain ⟨nbf, hnbf⟩ : ∃ nbf : Nat → Int, nbf = fun i => (gD ns (2 + i) * p).tdiv 1000 := ⟨_, rfl⟩
              have HO20 := Lib.hid ho20
              have HX7 := Lib.hid hx7
              have HNBF := Lib.hid hnbf
              clear ho20 hx7 hnbf
              clear e11
              go_wp2
              go_loopw [20, 21] (fun v t wr => ∃ j : Nat, j ≤ n ∧ t = .int .i64 j ∧ Hid (wr.ownsRow w6.heap.size 3 1 v (j + 1) ((kSeen j sh (kDl es nbf key)).map (.int .i64))) ∧ Hid (Ext w6 wr)) (fun _ t _ => n - (intOf t).toNat)
              case atStart => exact ⟨0, Nat.zero_le _, rfl, by have h : kSeen 0 sh (kDl es nbf key) = [sh + key] := (by simp [kSeen, kDl]); rw [h]; exact HO20.out, HX7.out⟩
              case round =>
                obtain ⟨j, hj, rfl, HV, HXJ⟩ := hrel
                by_cases hlt2 : j < n
                · skip
                  as_aux_lemma =>
                    obtain ⟨a20, q20, rfl⟩ := row_form HV.out
                    obtain ⟨wj, rfl⟩ : ∃ W, W = wr := ⟨wr, rfl⟩
                    have ksj := KS.out.ext (HX6.out.tr HXJ.out)
                    obtain ⟨ej, hej⟩ : ∃ y, y = es j := ⟨_, rfl⟩
                    obtain ⟨yj, hyj⟩ : ∃ y, y = gD ns (2 + j) := ⟨_, rfl⟩
                    obtain ⟨zj, hzj⟩ : ∃ y, y = (yj * p).tdiv 1000 := ⟨_, rfl⟩
                    have hyb := HB17.out (2 + j)
                    rw [← hyj] at hyb
                    have heb := KI.out.near HLL.out HLK.out hpp hlt2
                    rw [← hej] at heb
                    have hzb := tdiv_bd yj p p1 hyb
                    rw [← hzj] at hzb
                    obtain ⟨yb1, yb2⟩ := hyb
                    obtain ⟨eb1, eb2⟩ := heb
                    obtain ⟨zb1, zb2⟩ := hzb
                    have hm2 : -(1000 * p) ≤ yj * p ∧ yj * p ≤ 1000 * p := ⟨by have := Int.mul_le_mul_of_nonneg_right yb1 p1; omega, by have := Int.mul_le_mul_of_nonneg_right yb2 p1; omega⟩
                    obtain ⟨hm21, hm22⟩ := hm2
                    have hxd : Ext wj wj.drew := (Below.refl _ wj).drew
                    have g1 : wj.drew.cell? ⟨b7, j + 1, none⟩ = some (.int .i64 (30000 * ((j:Int) + 1))) := hxd.cellSome (owns_at ksj.pat.1 rfl (j + 1) _ (kPat_cell n (j + 1) (by omega)))
                    have g2 : wj.drew.cell? ⟨b9, j, none⟩ = some (.int .i64 ej) := by rw [hej]; exact hxd.cellSome (owns_at ksj.err.1 rfl j _ (mpI_cell es n j hlt2))
                    have g3 : wj.drew.cell? ⟨gn, 2 + j, none⟩ = some (.int .i64 yj) := by rw [hyj]; exact hxd.cellSome (HXJ.out.cellSome (HC6.out (2 + j) (by omega)))
                    have f1 : IntKind.i64.wrap ((j:Int) + 1) = (j:Int) + 1 := i64_eq _ (by omega)
                    have f2 : IntKind.i64.wrap (30000 * ((j:Int) + 1) + sh) = 30000 * ((j:Int) + 1) + sh := i64_eq _ (by omega)
                    have f3 : IntKind.i64.wrap (30000 * ((j:Int) + 1) + sh + ej) = 30000 * ((j:Int) + 1) + sh + ej := i64_eq _ (by omega)
                    have f4 : IntKind.i64.wrap (2 + (j:Int)) = 2 + (j:Int) := i64_eq _ (by omega)
                    have f5 : IntKind.i64.wrap (yj * p) = yj * p := i64_eq _ (by omega)
                    have f6 : IntKind.i64.wrap ((yj * p).tdiv 1000) = zj := by rw [← hzj]; exact i64_eq _ (by omega)
                    have f7 : IntKind.i64.wrap (30000 * ((j:Int) + 1) + sh + ej + zj) = 30000 * ((j:Int) + 1) + sh + ej + zj := i64_eq _ (by omega)
                    have f8 : (2 + (j:Int)).toNat = 2 + j := by omega
                    have f9 : ((j:Int) + 1).toNat = j + 1 := by omega
                    have j1 : (0:Int) ≤ (j:Int) + 1 := by omega
                    have j2 : (0:Int) ≤ 2 + (j:Int) := by omega
                    have j3 : 2 + (j:Int) < 8 := by omega
                    have l7 : b7 < w6.heap.size := Nat.lt_of_lt_of_le (KS.out.pat.1.lt b7 rfl).2 HX6.out.size
                    have l9 : b9 < w6.heap.size := Nat.lt_of_lt_of_le (KS.out.err.1.lt b9 rfl).2 HX6.out.size
                    have lg := (HO6.out.lt gn rfl).2
                    have hvd := owns_ext HV.out hxd
                    have hxd6 := HXJ.out.tr hxd
                    have HEJ := Lib.hid hej
                    have HYJ := Lib.hid hyj
                    have HZJ := Lib.hid hzj
                    clear hej hyj hzj
                    clear ksj yb1 yb2 eb1 eb2 zb1 zb2 hm21 hm22 hxd
                    go_upto_region 31 with (fail)
                    refine wp_region_K (fun wx => wx.cell? ⟨b7, j + 1, none⟩ = some (.int .i64 (30000 * ((j:Int) + 1))) ∧ wx.cell? ⟨b9, j, none⟩ = some (.int .i64 ej) ∧ wx.cell? ⟨gn, 2 + j, none⟩ = some (.int .i64 yj)) 24 (by kernel_rfl) ⟨g1, g2, g3⟩ (fun hHeld => ?_)
                    generalize wj.drew = wA at *
                    have HVD := Lib.hid hvd
                    have HXD6 := Lib.hid hxd6
                    clear hvd hxd6
                    refine wpAnyK_takeL (i := 0) (v := ?_) rfl (by kernel_rfl) (by kernel_rfl) (by kernel_rfl) (by kernel_rfl) (fun _ _ _ h => h) (Or.inl ⟨by rfl, ?_⟩) hHeld ?_
                    rotate_left
                    · intro w hSw; (try dsimp only at hSw); go_simp; (try with_reducible rfl)
                    try simp only [Act.put, List.setIfInBounds_toArray, List.set_cons_zero, List.set_cons_succ]
                    refine wpAnyK_takeL (i := 1) (v := ?_) rfl (by kernel_rfl) (by kernel_rfl) (by kernel_rfl) (by kernel_rfl) (fun _ _ _ h => h) (Or.inl ⟨by rfl, ?_⟩) hHeld ?_
                    rotate_left
                    · intro w hSw; (try dsimp only at hSw); go_simp; (try with_reducible rfl)
                    try simp only [Act.put, List.setIfInBounds_toArray, List.set_cons_zero, List.set_cons_succ]
                    refine wpAnyK_takeL (i := 2) (v := ?_) rfl (by kernel_rfl) (by kernel_rfl) (by kernel_rfl) (by kernel_rfl) (fun _ _ _ h => h) (Or.inl ⟨by rfl, ?_⟩) hHeld ?_
                    rotate_left
                    · intro w hSw; (try dsimp only at hSw); go_simp; (try with_reducible rfl)
                    try simp only [Act.put, List.setIfInBounds_toArray, List.set_cons_zero, List.set_cons_succ]
                    refine wpAnyK_takeL (i := 3) (v := ?_) rfl (by kernel_rfl) (by kernel_rfl) (by kernel_rfl) (by kernel_rfl) (fun _ _ _ h => h) (Or.inl ⟨by rfl, ?_⟩) hHeld ?_
                    rotate_left
                    · intro w hSw; (try dsimp only at hSw); go_simp; (try with_reducible rfl)
                    try simp only [Act.put, List.setIfInBounds_toArray, List.set_cons_zero, List.set_cons_succ]
                    refine wpAnyK_takeL (i := 4) (v := ?_) rfl (by kernel_rfl) (by kernel_rfl) (by kernel_rfl) (by kernel_rfl) (fun _ _ _ h => h) (Or.inl ⟨by rfl, ?_⟩) hHeld ?_
                    rotate_left
                    · intro w hSw; (try dsimp only at hSw); go_simp; (try with_reducible rfl)
                    try simp only [Act.put, List.setIfInBounds_toArray, List.set_cons_zero, List.set_cons_succ]
                    refine wpAnyK_takeL (i := 5) (v := ?_) rfl (by kernel_rfl) (by kernel_rfl) (by kernel_rfl) (by kernel_rfl) (fun _ _ _ h => h) (Or.inl ⟨by rfl, ?_⟩) hHeld ?_
                    rotate_left
                    · intro w hSw; (try dsimp only at hSw); go_simp; (try with_reducible rfl)
                    try simp only [Act.put, List.setIfInBounds_toArray, List.set_cons_zero, List.set_cons_succ]
                    refine wpAnyK_takeL (i := 6) (v := ?_) rfl (by kernel_rfl) (by kernel_rfl) (by kernel_rfl) (by kernel_rfl) (fun _ _ _ h => h) (Or.inl ⟨by rfl, ?_⟩) hHeld ?_
                    rotate_left
                    · intro w hSw; (try dsimp only at hSw); go_simp; (try with_reducible rfl)
                    try simp only [Act.put, List.setIfInBounds_toArray, List.set_cons_zero, List.set_cons_succ]
                    refine wpAnyK_takeL (i := 7) (v := ?_) rfl (by kernel_rfl) (by kernel_rfl) (by kernel_rfl) (by kernel_rfl) (fun _ _ _ h => h) (Or.inl ⟨by rfl, ?_⟩) hHeld ?_
                    rotate_left
                    · intro w hSw; (try dsimp only at hSw); go_simp; (try with_reducible rfl)
                    try simp only [Act.put, List.setIfInBounds_toArray, List.set_cons_zero, List.set_cons_succ]
                    refine wpAnyK_takeL (i := 8) (v := ?_) rfl (by kernel_rfl) (by kernel_rfl) (by kernel_rfl) (by kernel_rfl) (fun _ _ _ h => h) (Or.inl ⟨by rfl, ?_⟩) hHeld ?_
                    rotate_left
                    · intro w hSw; (try dsimp only at hSw); go_simp; (try with_reducible rfl)
                    try simp only [Act.put, List.setIfInBounds_toArray, List.set_cons_zero, List.set_cons_succ]
                    refine wpAnyK_takeL (i := 9) (v := ?_) rfl (by kernel_rfl) (by kernel_rfl) (by kernel_rfl) (by kernel_rfl) (fun _ _ _ h => h) (Or.inl ⟨by rfl, ?_⟩) hHeld ?_
                    rotate_left
                    · intro w hSw; (try dsimp only at hSw); go_simp; (try with_reducible rfl)
                    try simp only [Act.put, List.setIfInBounds_toArray, List.set_cons_zero, List.set_cons_succ]
                    refine wpAnyK_takeL (i := 10) (v := ?_) rfl (by kernel_rfl) (by kernel_rfl) (by kernel_rfl) (by kernel_rfl) (fun _ _ _ h => h) (Or.inl ⟨by rfl, ?_⟩) hHeld ?_
                    rotate_left
                    · intro w hSw; (try dsimp only at hSw); go_simp; (try with_reducible rfl)
                    try simp only [Act.put, List.setIfInBounds_toArray, List.set_cons_zero, List.set_cons_succ]
                    refine wpAnyK_takeL (i := 11) (v := ?_) rfl (by kernel_rfl) (by kernel_rfl) (by kernel_rfl) (by kernel_rfl) (fun _ _ _ h => h) (Or.inl ⟨by rfl, ?_⟩) hHeld ?_
                    rotate_left
                    · intro w hSw; (try dsimp only at hSw); go_simp; (try with_reducible rfl)
                    try simp only [Act.put, List.setIfInBounds_toArray, List.set_cons_zero, List.set_cons_succ]
                    refine wpAnyK_takeL (i := 12) (v := ?_) rfl (by kernel_rfl) (by kernel_rfl) (by kernel_rfl) (by kernel_rfl) (fun _ _ _ h => h) (Or.inl ⟨by rfl, ?_⟩) hHeld ?_
                    rotate_left
                    · intro w hSw; (try dsimp only at hSw); go_simp; (try with_reducible rfl)
                    try simp only [Act.put, List.setIfInBounds_toArray, List.set_cons_zero, List.set_cons_succ]
                    refine wpAnyK_takeL (i := 13) (v := ?_) rfl (by kernel_rfl) (by kernel_rfl) (by kernel_rfl) (by kernel_rfl) (fun _ _ _ h => h) (Or.inl ⟨by rfl, ?_⟩) hHeld ?_
                    rotate_left
                    · intro w hSw; (try dsimp only at hSw); go_simp; (try with_reducible rfl)
                    try simp only [Act.put, List.setIfInBounds_toArray, List.set_cons_zero, List.set_cons_succ]
                    refine wpAnyK_takeL (i := 14) (v := ?_) rfl (by kernel_rfl) (by kernel_rfl) (by kernel_rfl) (by kernel_rfl) (fun _ _ _ h => h) (Or.inl ⟨by rfl, ?_⟩) hHeld ?_
                    rotate_left
                    · intro w hSw; (try dsimp only at hSw); go_simp; (try with_reducible rfl)
                    try simp only [Act.put, List.setIfInBounds_toArray, List.set_cons_zero, List.set_cons_succ]
                    refine wpAnyK_takeL (i := 15) (v := ?_) rfl (by kernel_rfl) (by kernel_rfl) (by kernel_rfl) (by kernel_rfl) (fun _ _ _ h => h) (Or.inl ⟨by rfl, ?_⟩) hHeld ?_
                    rotate_left
                    · intro w hSw; (try dsimp only at hSw); go_simp; (try with_reducible rfl)
                    try simp only [Act.put, List.setIfInBounds_toArray, List.set_cons_zero, List.set_cons_succ]
                    refine wpAnyK_takeL (i := 16) (v := ?_) rfl (by kernel_rfl) (by kernel_rfl) (by kernel_rfl) (by kernel_rfl) (fun _ _ _ h => h) (Or.inl ⟨by rfl, ?_⟩) hHeld ?_
                    rotate_left
                    · intro w hSw; (try dsimp only at hSw); go_simp; (try with_reducible rfl)
                    try simp only [Act.put, List.setIfInBounds_toArray, List.set_cons_zero, List.set_cons_succ]
                    refine wpAnyK_takeL (i := 17) (v := ?_) rfl (by kernel_rfl) (by kernel_rfl) (by kernel_rfl) (by kernel_rfl) (fun _ _ _ h => h) (Or.inl ⟨by rfl, ?_⟩) hHeld ?_
                    rotate_left
                    · intro w hSw; (try dsimp only at hSw); go_simp; (try with_reducible rfl)
                    try simp only [Act.put, List.setIfInBounds_toArray, List.set_cons_zero, List.set_cons_succ]
                    refine wpAnyK_takeL (i := 18) (v := ?_) rfl (by kernel_rfl) (by kernel_rfl) (by kernel_rfl) (by kernel_rfl) (fun _ _ _ h => h) (Or.inl ⟨by rfl, ?_⟩) hHeld ?_
                    rotate_left
                    · intro w hSw; (try dsimp only at hSw); go_simp; (try with_reducible rfl)
                    try simp only [Act.put, List.setIfInBounds_toArray, List.set_cons_zero, List.set_cons_succ]
                    refine wpAnyK_takeL (i := 19) (v := ?_) rfl (by kernel_rfl) (by kernel_rfl) (by kernel_rfl) (by kernel_rfl) (fun _ _ _ h => h) (Or.inl ⟨by rfl, ?_⟩) hHeld ?_
                    rotate_left
                    · intro w hSw; (try dsimp only at hSw); go_simp; (try with_reducible rfl)
                    try simp only [Act.put, List.setIfInBounds_toArray, List.set_cons_zero, List.set_cons_succ]
                    refine wpAnyK_takeL (i := 20) (v := ?_) rfl (by kernel_rfl) (by kernel_rfl) (by kernel_rfl) (by kernel_rfl) (fun _ _ _ h => h) (Or.inl ⟨by rfl, ?_⟩) hHeld ?_
                    rotate_left
                    · intro w hSw; (try dsimp only at hSw); go_simp; (try with_reducible rfl)
                    try simp only [Act.put, List.setIfInBounds_toArray, List.set_cons_zero, List.set_cons_succ]
                    refine wpAnyK_takeL (i := 21) (v := ?_) rfl (by kernel_rfl) (by kernel_rfl) (by kernel_rfl) (by kernel_rfl) (fun _ _ _ h => h) (Or.inl ⟨by rfl, ?_⟩) hHeld ?_
                    rotate_left
                    · intro w hSw; (try dsimp only at hSw); go_simp; (try with_reducible rfl)
                    try simp only [Act.put, List.setIfInBounds_toArray, List.set_cons_zero, List.set_cons_succ]
                    refine wpAnyK_ready (rs := [22]) (by kernel_rfl) (by simp) ?_
                    refine AllReadyK.consL (i := 22) rfl (fun K hK => ?_) ?_
                    · refine step_build1 tInts rfl rfl (v := .int .i64 (30000 * ((j:Int) + 1) + sh + ej + zj)) rfl [.int .i64 (30000 * ((j:Int) + 1) + sh + ej + zj)] (by omega) rfl rfl ?_
                      intro lb wb hx hl hb hc
                      have hvb := owns_ext HVD.out hx
                      have hxb := HXD6.out.tr hx
                      refine hK.out _ _ (fun _ => ⟨hx.cellSome hHeld.1, hx.cellSome hHeld.2.1, hx.cellSome hHeld.2.2⟩) (fun hHeld2 => ?_)
                      clear hK K
                      try clear hHeld
                      have hHeld := hHeld2 (by decide)
                      clear hHeld2
                      try simp only [Act.put, List.setIfInBounds_toArray, List.set_cons_zero, List.set_cons_succ]
                      have HVB := Lib.hid hvb
                      have HXB2 := Lib.hid hxb
                      have L1 := Lib.hid hc
                      clear hvb hxb hc
                      clear HVD HXD6 hx hl hb
                      refine wpAnyK_ready (rs := [23]) (by kernel_rfl) (by simp) ?_
                      refine AllReadyK.consL (i := 23) rfl (fun K hK => ?_) ?_
                      · refine step_app tInts (v := .slice a20 (j + 1) q20) rfl rfl rfl HVB.out rfl (cs := [.int .i64 (30000 * ((j:Int) + 1) + sh + ej + zj)]) rfl (by omega) L1.out (by simp [Value.oneCell']) (by omega) HXB2.out.size ?_
                        intro v' wa t1 t2 t3 t4
                        have hxa := HXB2.out.then_only (only_grown t2) (fun b hb => (HVB.out.lt b hb).1)
                        refine hK.out _ _ (fun _ => ⟨(only_grown t2).cell hHeld.1 (fun e => by have := (HVB.out.lt b7 e).1; omega), (only_grown t2).cell hHeld.2.1 (fun e => by have := (HVB.out.lt b9 e).1; omega), (only_grown t2).cell hHeld.2.2 (fun e => by have := (HVB.out.lt gn e).1; omega)⟩) (fun hHeld2 => ?_)
                        clear hK K
                        try clear hHeld
                        have hHeld := hHeld2 (by decide)
                        clear hHeld2
                        try simp only [Act.put, List.setIfInBounds_toArray, List.set_cons_zero, List.set_cons_succ]
                        have T1 := Lib.hid t1
                        have HXA := Lib.hid hxa
                        clear t1 hxa
                        clear t2 t3 t4 HVB HXB2 L1
                        refine wpAnyK_ready (rs := [24]) (by kernel_rfl) (by simp) ?_
                        refine AllReadyK.consL (i := 24) rfl (fun K hK => ?_) ?_
                        · go_simp
                          refine hK.out _ _ (fun h => absurd h (by decide)) (fun hHeld2 => ?_)
                          clear hK K hHeld2
                          try clear hHeld
                          try simp only [Act.put, List.setIfInBounds_toArray, List.set_cons_zero, List.set_cons_succ]
                          refine wpAnyK_done (by kernel_rfl) ?_ _
                          go_wp2
                          go_roundw
                          case rel =>
                            have hel : 30000 * ((j:Int) + 1) + sh + kDl es nbf key (j + 1) = 30000 * ((j:Int) + 1) + sh + ej + zj := by
                              rw [kDl_succ, HNBF.out, HEJ.out, HZJ.out, HYJ.out]
                              exact (Int.add_assoc _ _ _).symm
                            exact ⟨j + 1, by omega, by go_num, by rw [kSeen_succ, hel, List.map_append]; exact T1.out, HXA.out⟩
                          case measure => simp [intOf]; omega
                        · exact AllReadyK.nil
                      · exact AllReadyK.nil
                    · exact AllReadyK.nil
                · obtain rfl : n = j := by omega
                  as_aux_lemma =>
                    obtain ⟨a20, q20, rfl⟩ := row_form HV.out
                    obtain ⟨wj, rfl⟩ : ∃ W, W = wr := ⟨wr, rfl⟩
                    obtain ⟨seen, hseen⟩ : ∃ s, s = kSeen n sh (kDl es nbf key) := ⟨_, rfl⟩
                    have hnb : ∀ i, i < n → -p ≤ nbf i ∧ nbf i ≤ p := fun i hi => by rw [HNBF.out]; exact tdiv_bd _ p p1 (HB17.out (2 + i))
                    obtain ⟨r1, r2, r3, r4, r5⟩ := KI.out.read HLL.out n3 HLK.out ⟨p1, hpp⟩ ⟨sh1, sh2⟩ ⟨hkey1, hkey2⟩ hnb
                    rw [← hseen] at r1 r2 r3 r4 r5
                    have hsl : seen.length = n + 1 := by rw [hseen, kSeen_len]
                    have hdn : d.n = n := by unfold DeskD.n; rw [KI.out.loops, HLL.out]
                    have hx56 := HX6.out.tr HXJ.out
                    have hread : Calls Try.prog 21 #[.pointer (some ⟨db, 0, none⟩), .slice a20 (n + 1) q20] wj fun e w8 => ∃ gs ge qe gm qm m' ρ', e = .returned (.tuple #[.agg #[.bool true, .int .i64 gs, .slice (some ⟨ge, 0, none⟩) n qe, .slice (some ⟨gm, 0, none⟩) n qm], .int .i64 0]) ∧
                        w8.ownsRow wj.heap.size 3 1 (.slice (some ⟨ge, 0, none⟩) n qe) n ((rErrs d seen n).map (.int .i64)) ∧ w8.ownsRow wj.heap.size 3 1 (.slice (some ⟨gm, 0, none⟩) n qm) n ((rMovs d seen n).map (.int .i64)) ∧
                        DSt w8 db (readD d seen) m' ρ' ∧ (∀ b, b < wj.heap.size → ρ' b = ρ b) ∧ Only (fun k => ρ k ≠ 0) wj w8 := by
                      have hs0 : Ints wj (.slice a20 seen.length q20) seen := by rw [hsl, hseen]; exact Sl.of_owns HV.out
                      have h := read_any db d m ρ seen a20 q20 wj (DS.out.ext hx56) KI.out.ok hs0 (fun x hx => by
                        obtain ⟨i, hi, rfl⟩ := List.mem_iff_getElem.1 hx
                        have := r1 i hi; unfold I64; omega) (by rw [KI.out.cop]; omega)
                      rw [hsl] at h
                      refine h.mono fun e w8 hp => ?_
                      rcases hp with ⟨h0, _⟩ | ⟨_, ve, vm, m', ρ', h1, h2, h3, _, _, h6, h7, h8⟩
                      · refine (h0 ?_).elim
                        unfold readErr; rw [if_neg (by omega), if_neg (fun h => h r1)]
                      · rw [hdn] at h2 h3
                        obtain ⟨ge, qe, rfl⟩ := row_pos h2 (by omega)
                        obtain ⟨gm, qm, rfl⟩ := row_pos h3 (by omega)
                        refine ⟨(rC d seen).shift, ge, qe, gm, qm, m', ρ', ?_, h2, h3, h6, h7, h8⟩
                        rw [h1, r2]
                        have : (rC d seen).good = true := r3
                        rw [this]; rfl
                    have R4 := Lib.hid r4
                    have R5 := Lib.hid r5
                    have HREAD := Lib.hid hread
                    have HNB := Lib.hid hnb
                    have HX56 := Lib.hid hx56
                    clear r4 r5 hread hnb hx56
                    clear r1 r2 r3 hsl
                    go_upto_region 33 with (first
                      | (go_at_call 21
                         refine HREAD.out.mono ?_
                         rintro e w8 ⟨gs, ge, qe, gm, qm, m', ρ', rfl, he8, hm8, hd8, hr8, ho8⟩
                         have ks8 := (KS.out.ext HX56.out).only ho8 (fun b hb => Decidable.byContradiction fun h => hb (HSR.out b h))
                         have xt8 := (HX5.out.tr HX56.out).then_only ho8 (fun b hb => HRB.out b hb)
                         have gn0 : ρ gn = 0 := Decidable.byContradiction fun h => by have := DS.out.hlt gn h; have := (HO6.out.lt gn rfl).1; omega
                         have hc8 : ∀ j, j < 8 → w8.cell? ⟨gn, j, none⟩ = some (.int .i64 (gD ns j)) := fun j hj => ho8.cell (HXJ.out.cellSome (HC6.out j hj)) (fun h => h gn0)
                         have hsr8 : ∀ b, σk b ≠ 0 → ρ' b = 0 := fun b hb => (hr8 b (by have := KS.out.hlt b hb; have := HX56.out.size; omega)).trans (HSR.out b hb)
                         have hrb8 : ∀ b, ρ' b ≠ 0 → w1.heap.size ≤ b := fun b hb => by
                           rcases Nat.lt_or_ge b wj.heap.size with h | h
                           · exact HRB.out b (fun h0 => hb ((hr8 b h).trans h0))
                           · have := (HX5.out.tr HX56.out).size; omega
                         have hs8 := ho8.size
                         have VE8 := Lib.hid he8
                         have VM8 := Lib.hid hm8
                         have D8 := Lib.hid hd8
                         have K8 := Lib.hid ks8
                         have X8 := Lib.hid xt8
                         have C8 := Lib.hid hc8
                         have SR8 := Lib.hid hsr8
                         have RB8 := Lib.hid hrb8
                         clear he8 hm8 hd8 ks8 xt8 hc8 hsr8 hrb8
                         clear gn0 ho8 hr8 HREAD)
                      | (with_reducible refine wpList_allocA (t := 59) rfl rfl Try.zeroValue59 ?_
                         rintro cb w9 hb9 hx9 hl9
                         have CB9 := Lib.hid hb9
                         have XT9 := Lib.hid hx9
                         have HL9 := Lib.hid hl9
                         clear hb9 hx9 hl9)
                      | (with_reducible refine wpList_storeK (ty := 59) (cells := #[.bool true, .int .i64 gs, .slice (some ⟨ge, 0, none⟩) n qe, .slice (some ⟨gm, 0, none⟩) n qm]) rfl rfl CB9.out ?_ ?_ ?_ ?_ ?_ ?_
                         · rfl
                         · rfl
                         · kernel_rfl
                         · rfl
                         · simp [Value.oneCell']
                         rintro w10 hb10 ho10
                         have cb10 := hb10.cell
                         have hx10 : Ext w8 w10 := XT9.out.then_only ho10 (fun k (e : k = cb) => by have := HL9.out; omega)
                         have CB10 := Lib.hid hb10
                         have HX10 := Lib.hid hx10
                         clear hb10 hx10
                         clear CB9 XT9 ho10))
                    have ve10 := owns_ext VE8.out HX10.out
                    have vm10 := owns_ext VM8.out HX10.out
                    have ks10 := K8.out.ext HX10.out
                    have hc10 : ∀ j, j < 8 → w10.cell? ⟨gn, j, none⟩ = some (.int .i64 (gD ns j)) := fun j hj => HX10.out.cellSome (C8.out j hj)
                    have xt10 := X8.out.tr HX10.out
                    have d10 := D8.out.ext HX10.out
                    have hs10 := HX10.out.size
                    have hs5 := HX56.out.size
                    have z0 : ∀ b, w5.heap.size ≤ b → σk b = 0 := fun b hb => Decidable.byContradiction fun h => by have := KS.out.hlt b h; omega
                    have zcb := z0 cb (by have := HL9.out; omega)
                    have zgn := z0 gn (HO6.out.lt gn rfl).1
                    have zge := z0 ge (by have := (VE8.out.lt ge rfl).1; omega)
                    have zgm := z0 gm (by have := (VM8.out.lt gm rfl).1; omega)
                    obtain ⟨msN, hmsN⟩ : ∃ f : Nat → List Int, f = fun i => ms i ++ [rMov d seen i] := ⟨_, rfl⟩
                    obtain ⟨esN, hesN⟩ : ∃ f : Nat → Int, f = fun i => es i + (if (ls.getD i default).dead.toNat ≤ k then gD (ms i ++ [rMov d seen i]) (k - (ls.getD i default).dead.toNat) else 0) + (gD ns (5 + i) * (ls.getD i default).noise).tdiv 1000 := ⟨_, rfl⟩
                    have li := LInv.start ks10
                    rw [← fA_zero esN es, ← fA_zero msN ms] at li
                    have VE := Lib.hid ve10
                    have VM := Lib.hid vm10
                    have C10 := Lib.hid hc10
                    have X10 := Lib.hid xt10
                    have D10 := Lib.hid d10
                    have MSN := Lib.hid hmsN
                    have ESN := Lib.hid hesN
                    have LI := Lib.hid li
                    have ZCB := Lib.hid zcb
                    have ZGN := Lib.hid zgn
                    have ZGE := Lib.hid zge
                    have ZGM := Lib.hid zgm
                    clear ve10 vm10 hc10 xt10 d10 hmsN hesN li zcb zgn zge zgm
                    clear K8 X8 VE8 VM8 C8 D8 HX10 HL9 ks10 z0
                    go_upto_region 35 with (fail)
                    clear cb10
                    go_wp2
                    go_loopw [24] (fun t wr => ∃ j : Nat, j ≤ n ∧ t = .int .i64 j ∧ Hid (LInv w1.heap.size n ls (.slice (some ⟨b7, 0, none⟩) (n + 1) q7) (.slice (some ⟨b8, 0, none⟩) n q8) (.slice (some ⟨b9, 0, none⟩) n q9) (.slice (some ⟨b10, 0, none⟩) n q10) σk w10 (fA esN es j) (fA msN ms j) wr)) (fun t _ => n - (intOf t).toNat)
                    case atStart => exact ⟨0, Nat.zero_le _, rfl, LI.out⟩
                    case round =>
                      obtain ⟨j, hj, rfl, HLJ⟩ := hrel
                      by_cases hlt3 : j < n
                      · skip
                        as_aux_lemma =>
                          clear sh1 sh2 hs8 hs10 hs5 hseen hx4 hxlen hn
                          obtain ⟨wq, rfl⟩ : ∃ W, W = wr := ⟨wr, rfl⟩
                          obtain ⟨mvj, σj, kj, hold, hon⟩ := HLJ.out
                          obtain ⟨L, hL⟩ : ∃ L, L = ls.getD j default := ⟨_, rfl⟩
                          obtain ⟨l1, l2, l3, l4, l5, l6⟩ := HLK.out.at HLL.out hlt3
                          have hcol := KI.out.col j hlt3
                          rw [← hL] at l1 l2 l3 l4 l5 hcol
                          have hok := l1
                          unfold Loop.Ok at hok
                          obtain ⟨⟨ok1, ok2⟩, ⟨ok3, ok4⟩, ok6, ok7, ok8, ok5⟩ := hok
                          obtain ⟨D, hD⟩ := Int.eq_ofNat_of_zero_le ok1
                          obtain ⟨NZ, hNZ⟩ : ∃ y, L.noise = y := ⟨_, rfl⟩
                          obtain ⟨ej, hej⟩ : ∃ y, y = es j := ⟨_, rfl⟩
                          obtain ⟨uj, huj⟩ : ∃ y, y = rMov d seen j := ⟨_, rfl⟩
                          obtain ⟨er, her⟩ : ∃ y, y = rErr d seen j := ⟨_, rfl⟩
                          have hnear := KI.out.near HLL.out HLK.out hpp hlt3
                          have hner : er = ej + nbf j - key := by rw [her, hej]; exact R4.out j hlt3
                          have hnbj := HNB.out j hlt3
                          have hbnd := hcol.holds l1 l5
                          rw [← hej] at hnear hbnd
                          have lc := lpL_get ls n j
                          rw [← hL] at lc
                          have a0 : wq.cell? ⟨b8, j * 4, none⟩ = some (.int .i64 (D:Int)) := by rw [← hD]; exact owns_at kj.lps.1 rfl (j * 4 + 0) _ (lc 0 hlt3 (by omega))
                          have a1 : wq.cell? ⟨b8, j * 4 + 1, none⟩ = some (.int .i64 NZ) := by rw [← hNZ]; exact owns_at kj.lps.1 rfl (j * 4 + 1) _ (lc 1 hlt3 (by omega))
                          have a2 : wq.cell? ⟨b8, j * 4 + 2, none⟩ = some (.int .i64 (2 * p)) := by rw [← l4]; exact owns_at kj.lps.1 rfl (j * 4 + 2) _ (lc 2 hlt3 (by omega))
                          have a3 : wq.cell? ⟨b9, j, none⟩ = some (.int .i64 ej) := by
                            have h := owns_at kj.err.1 rfl j _ (mpI_cell _ n j hlt3)
                            rw [fA_at, ← hej] at h; exact h
                          have a4 : wq.cell? ⟨ge, j, none⟩ = some (.int .i64 er) := by
                            rw [her]; exact hon.cell (owns_at VE.out rfl j _ (by simp [rErrs, hlt3])) (fun h => h ZGE.out)
                          have a5 : wq.cell? ⟨gm, j, none⟩ = some (.int .i64 uj) := by
                            rw [huj]; exact hon.cell (owns_at VM.out rfl j _ (by simp [rMovs, hlt3])) (fun h => h ZGM.out)
                          have cbq := (CB10.out.only hon (fun h => h ZCB.out))
                          have a6 : wq.cell? ⟨cb, 2, none⟩ = some (.slice (some ⟨ge, 0, none⟩) n qe) := cbq.cell 2
                          have a7 : wq.cell? ⟨cb, 3, none⟩ = some (.slice (some ⟨gm, 0, none⟩) n qm) := cbq.cell 3
                          obtain ⟨am, cm, hmj⟩ := row_form (kj.ms j hlt3).1
                          rw [fA_at, hcol.len] at hmj
                          have a8 : wq.cell? ⟨b10, j, none⟩ = some (.slice am k cm) := by rw [← hmj]; exact owns_at kj.mov.1 rfl j _ (mpV_cell _ n j hlt3)
                          rw [hNZ, hD] at hbnd
                          obtain ⟨nbd, hnbd⟩ : ∃ y, ((D:Int) + 1) * NZ = y := ⟨_, rfl⟩
                          rw [hnbd, l4] at hbnd
                          rw [hNZ] at ok3 ok4 l3
                          have hnb0 : 0 ≤ nbd ∧ nbd ≤ 300 := by
                            rw [← hnbd]
                            refine ⟨Int.mul_nonneg (by omega) ok3, ?_⟩
                            have h1 : ((D:Int) + 1) * NZ ≤ 6 * 50 := Int.mul_le_mul (by omega) l3 ok3 (by omega)
                            omega
                          obtain ⟨nb01, nb02⟩ := hnb0
                          have f1 : IntKind.i64.wrap ((D:Int) + 1) = (D:Int) + 1 := i64_eq _ (by omega)
                          have f2 : IntKind.i64.wrap (((D:Int) + 1) * NZ) = nbd := by rw [hnbd]; exact i64_eq _ (by omega)
                          have f3 : IntKind.i64.wrap (nbd + 2 * p) = nbd + 2 * p := i64_eq _ (by omega)
                          have hbnd' : D < k → -(nbd + 2 * p) ≤ ej ∧ ej ≤ nbd + 2 * p := fun h => hbnd (by omega)
                          obtain ⟨hn1, hn2⟩ := hnear
                          obtain ⟨hb1, hb2⟩ := hnbj
                          have hoff : -(2 * p) ≤ er - ej ∧ er - ej ≤ 2 * p := by omega
                          have herb : -20000 ≤ er ∧ er ≤ 20000 := by omega
                          obtain ⟨of1, of2⟩ := hoff
                          obtain ⟨er1, er2⟩ := herb
                          have hDn : L.dead.toNat = D := by omega
                          have hall : ((-1300 ≤ ej ∧ ej ≤ 1300) ∧ (-20000 ≤ er ∧ er ≤ 20000)) ∧ (-(2 * p) ≤ er - ej ∧ er - ej ≤ 2 * p) ∧ (0 ≤ nbd ∧ nbd ≤ 300) := ⟨⟨⟨hn1, hn2⟩, er1, er2⟩, ⟨of1, of2⟩, nb01, nb02⟩
                          have hnz : 0 ≤ NZ ∧ NZ ≤ 50 := ⟨ok3, l3⟩
                          have HNER := Lib.hid hner
                          have HDN := Lib.hid hDn
                          have HALL := Lib.hid hall
                          have HNZB := Lib.hid hnz
                          clear hner hDn hall hnz
                          have KJ := Lib.hid kj
                          have HOLD := Lib.hid hold
                          have HON := Lib.hid hon
                          have HLV := Lib.hid hL
                          have HCOL := Lib.hid hcol
                          have HD := Lib.hid hD
                          have HNZ := Lib.hid hNZ
                          have HEJ := Lib.hid hej
                          have HUJ := Lib.hid huj
                          have HMJ := Lib.hid hmj
                          have HBND := Lib.hid hbnd'
                          have LC := Lib.hid lc
                          clear kj hold hon hL hcol hD hNZ hej huj hmj hbnd' lc
                          clear HLJ hbnd her l1 l5 l6 cbq hnbd hn1 hn2 er1 er2 of1 of2 nb01 nb02 hb1 hb2 ok1 ok2 ok3 ok4 ok5 ok6 ok7 ok8 l2 l3 l4
                          go_upto_region 38 with (fail)
                          go_cut [25] (fun v W => v = .int .i64 (nbd + 2 * p) ∧ ∃ q, W = wq.drewN q)
                          case first =>
                            go_quiet (fail)
                            go_wp2
                            go_meet
                            case rel => exact ⟨rfl, nq, rfl⟩
                          obtain ⟨rfl, HWA⟩ := hcut
                          obtain ⟨wa, rfl⟩ : ∃ W, W = wc := ⟨wc, rfl⟩
                          have hxa : Ext wq wa := by obtain ⟨q, hq⟩ := HWA; rw [hq]; exact Ext.of_drewN _ _
                          clear HWA
                          have c0 := hxa.cellSome a0
                          have c3 := hxa.cellSome a3
                          have c4 := hxa.cellSome a4
                          have c6 := hxa.cellSome a6
                          have HXA := Lib.hid hxa
                          clear hxa
                          clear f1 f2 f3
                          go_upto_region 39 with (fail)
                          go_cut [254] (fun v W => v = .bool false ∧ W = wa)
                          case first =>
                            by_cases hgt : D < k
                            · obtain ⟨g1, g2⟩ := HBND.out hgt
                              have d1 : decide ((D:Int) < (k:Int)) = true := decide_eq_true (by omega)
                              have d2 : decide (nbd + 2 * p < ej) = false := decide_eq_false (by omega)
                              have d3 : decide (ej < -(nbd + 2 * p)) = false := decide_eq_false (by omega)
                              have f4 : IntKind.i64.wrap (-(nbd + 2 * p)) = -(nbd + 2 * p) := i64_eq _ (by have := HALL.out; omega)
                              go_wp2
                              go_meet
                              case rel => exact ⟨rfl, rfl⟩
                            · have d1 : decide ((D:Int) < (k:Int)) = false := decide_eq_false (by omega)
                              go_wp2
                              go_meet
                              case rel => exact ⟨rfl, rfl⟩
                          case rest =>
                            obtain ⟨rfl, hcut⟩ := hcut
                            obtain ⟨wb, rfl⟩ : ∃ W, W = wc := ⟨wc, rfl⟩
                            obtain rfl : wb = wa := hcut
                            have f5 : IntKind.i64.wrap (er - ej) = er - ej := i64_eq _ (by have := HALL.out; omega)
                            go_upto_region 41 with (fail)
                            go_cut [26] (fun v W => v = .int .i64 (er - ej) ∧ ∃ q, W = wb.drewN q)
                            case first =>
                              go_quiet (fail)
                              go_wp2
                              go_meet
                              case rel => exact ⟨rfl, nq, rfl⟩
                            obtain ⟨rfl, HWA⟩ := hcut
                            obtain ⟨wd, rfl⟩ : ∃ W, W = wc := ⟨wc, rfl⟩
                            have hxa : Ext wq wd := by obtain ⟨q, hq⟩ := HWA; rw [hq]; exact HXA.out.tr (Ext.of_drewN _ _)
                            clear HWA
                            clear HXA c0 c3 c4 c6
                            have c2 := hxa.cellSome a2
                            have c5 := hxa.cellSome a5
                            have c7 := hxa.cellSome a7
                            have c8 := hxa.cellSome a8
                            have kb := KJ.out.ext hxa
                            have honb := HON.out.tr (Only.of_ext hxa)
                            have mr := (kb.ms j hlt3).1
                            rw [fA_at, HMJ.out, HCOL.out.len] at mr
                            have f6 : IntKind.i64.wrap (-(er - ej)) = -(er - ej) := i64_eq _ (by have := HALL.out; omega)
                            have d4 : decide (2 * p < er - ej) = false := decide_eq_false (by have := HALL.out; omega)
                            have d5 : decide (2 * p < -(er - ej)) = false := decide_eq_false (by have := HALL.out; omega)
                            have KB := Lib.hid kb
                            have HONB := Lib.hid honb
                            have MR := Lib.hid mr
                            clear kb honb mr
                            clear a0 a1 a2 a3 a4 a5 a6 a7 a8 hxa KJ HON f5
                            go_upto_region 44 with (fail)
                            clear f6 d4 d5 c2
                            go_upto_region 46 with (first
                              | (at_builtin
                                 refine wpList_app tInts rfl rfl (v := .slice am k cm) rfl (owns_ext MR.out (ext_lit _ _ _)) rfl (Src.lit _ [.int .i64 uj] 1 1 rfl 3 1) (by simp [Value.oneCell']) (by omega) (Nat.zero_le _) ?_
                                 rintro v' w14 t1 t2 t3
                                 obtain ⟨gv, qv, rfl⟩ := row_pos t1 (by omega)
                                 rw [← HMJ.out] at t2 t3
                                 obtain ⟨ho4, hr4⟩ := KB.out.heads hlt3 (ext_lit _ _ _) t2
                                 obtain ⟨g, c, cur, hv, hbk, hcs, hcur⟩ := owns_blk hr4 (by omega)
                                 cases hv
                                 have T1 := Lib.hid t1
                                 have T2 := Lib.hid t2
                                 have T3 := Lib.hid t3
                                 have HR4 := Lib.hid hr4
                                 have HBK := Lib.hid hbk
                                 have HCUR := Lib.hid hcur
                                 have HO4 := Lib.hid ho4
                                 clear t1 t2 t3 hr4 hbk hcur ho4
                                 clear c5 c7 c8)
                              | (with_reducible refine wpList_setK (i := j) (v := .slice (some ⟨gv, 0, none⟩) (k + 1) qv) rfl rfl HBK.out ?_ ?_ ?_ ?_ ?_ ?_ ?_
                                 · rfl
                                 · rfl
                                 · omega
                                 · kernel_rfl
                                 · rfl
                                 · simp [Value.oneCell']
                                 rintro w15 hb5 ho5
                                 have hown5 := owns_put HR4.out HBK.out hb5
                                 obtain ⟨σm, km, holdm, honm⟩ := LInv.move KB.out HOLD.out HONB.out hlt3 (ext_lit _ _ _) (by rw [fA_at, HCOL.out.len]; exact T1.out) T2.out T3.out rfl ho5 hown5
                                 rw [fA_at] at km
                                 have KM := Lib.hid km
                                 have HOLDM := Lib.hid holdm
                                 have HONM := Lib.hid honm
                                 clear km holdm honm
                                 clear hb5 ho5 hown5 HBK HR4 T1 T2 T3 HCUR HO4 KB HONB HOLD))
                            have emN : ms j ++ [uj] = msN j := by rw [MSN.out, HUJ.out]
                            have km := KM.out
                            rw [emN, fA_upd] at km
                            have li := (⟨_, _, km, HOLDM.out, HONM.out⟩ : LInv w1.heap.size n ls (.slice (some ⟨b7, 0, none⟩) (n + 1) q7) (.slice (some ⟨b8, 0, none⟩) n q8) (.slice (some ⟨b9, 0, none⟩) n q9) (.slice (some ⟨b10, 0, none⟩) n q10) σk w10 (fA esN es j) (fA msN ms (j + 1)) w15)
                            obtain ⟨mvv, hmvv⟩ : ∃ y, y = gD (ms j ++ [uj]) (k - D) := ⟨_, rfl⟩
                            obtain ⟨ej1, hej1⟩ : ∃ y, y = ej + (if D ≤ k then mvv else 0) := ⟨_, rfl⟩
                            have hmb : D ≤ k → -10000 ≤ mvv ∧ mvv ≤ 10000 := fun h => by
                              have hh := KI.out.head HLL.out seen hlt3
                              rw [← HLV.out, ← HUJ.out, HDN.out, if_pos h, ← hmvv] at hh
                              exact hh
                            have k1 := owns_at km.lps.1 rfl (j * 4 + 0) _ (LC.out 0 hlt3 (by omega))
                            have k2 := owns_at km.err.1 rfl j _ (mpI_cell _ n j hlt3)
                            have k3 := owns_at km.mov.1 rfl j _ (mpV_cell _ n j hlt3)
                            have k4 := (km.ms j hlt3).1
                            rw [fA_at, ← HEJ.out] at k2
                            rw [upd_same] at k3 k4
                            have k1' : w15.cell? ⟨b8, j * 4, none⟩ = some (.int .i64 (D:Int)) := by rw [← HD.out]; exact k1
                            have hml : (ms j ++ [uj]).length = k + 1 := by rw [List.length_append, HCOL.out.len]; rfl
                            rw [← fA_upd, upd_same, ← emN, hml] at k4
                            have k5 : D ≤ k → w15.cell? ⟨gv, k - D, none⟩ = some (.int .i64 mvv) := fun h => by
                              rw [hmvv]; exact owns_at k4 rfl (k - D) _ (map_gD (by rw [List.length_append, HCOL.out.len]; simp; omega))
                            have hej1b : -12000 ≤ ej1 ∧ ej1 ≤ 12000 := by
                              rw [hej1]
                              have ha := HALL.out
                              by_cases h : D ≤ k
                              · rw [if_pos h]; have := hmb h; omega
                              · rw [if_neg h]; omega
                            have LI2 := Lib.hid li
                            have HMVV := Lib.hid hmvv
                            have HEJ1 := Lib.hid hej1
                            have K1 := Lib.hid k1'
                            have K2 := Lib.hid k2
                            have K3 := Lib.hid k3
                            have K5 := Lib.hid k5
                            have HMB := Lib.hid hmb
                            clear li hmvv hej1 k1' k2 k3 k5 hmb
                            clear KM HOLDM HONM k1 k4 km
                            dsimp only [Act.put]
                            by_cases hge : D ≤ k
                            · skip
                              as_aux_lemma =>
                                have d6 : decide ((D:Int) ≤ (k:Int)) = true := decide_eq_true (by omega)
                                obtain ⟨mb1, mb2⟩ := HMB.out hge
                                have hej2 : ej1 = ej + mvv := by rw [HEJ1.out, if_pos hge]
                                have e1 : IntKind.i64.wrap (ej + mvv) = ej1 := by rw [hej2]; exact i64_eq _ (by omega)
                                obtain ⟨iq, hiq⟩ : ∃ iq, iq = k - D := ⟨_, rfl⟩
                                have e2 : IntKind.i64.wrap ((k:Int) - (D:Int)) = (iq:Int) := by rw [i64_eq _ (by omega)]; omega
                                have e5 : (iq:Int) < (k:Int) + 1 := by omega
                                have hk5 := K5.out hge
                                rw [← hiq] at hk5
                                have HJB := Lib.hid hej1b
                                clear hej1b
                                clear hej2 mb1 mb2 hiq
                                have cK1 := K1.out
                                go_upto_region 47 with (fail)
                                have hxd : Ext w15 w15.drew := (Below.refl _ w15).drew
                                obtain ⟨mv3, σ3, k31, k32, k33⟩ := LI2.out
                                replace k31 := k31.ext hxd
                                replace k33 := k33.tr (Only.of_ext hxd)
                                have q1 : w15.drew.cell? ⟨b9, j, none⟩ = some (.int .i64 ej) := hxd.cellSome K2.out
                                have q2 : w15.drew.cell? ⟨b10, j, none⟩ = some (.slice (some ⟨gv, 0, none⟩) (k + 1) qv) := hxd.cellSome K3.out
                                have q3 : w15.drew.cell? ⟨b8, j * 4, none⟩ = some (.int .i64 (D:Int)) := hxd.cellSome K1.out
                                have q4 : w15.drew.cell? ⟨gv, iq, none⟩ = some (.int .i64 mvv) := hxd.cellSome hk5
                                refine wp_region_K (fun wx => wx.cell? ⟨b9, j, none⟩ = some (.int .i64 ej) ∧ wx.cell? ⟨b10, j, none⟩ = some (.slice (some ⟨gv, 0, none⟩) (k + 1) qv) ∧ wx.cell? ⟨b8, j * 4, none⟩ = some (.int .i64 (D:Int)) ∧ wx.cell? ⟨gv, iq, none⟩ = some (.int .i64 mvv)) 18 (by kernel_rfl) ⟨q1, q2, q3, q4⟩ (fun hHeld => ?_)
                                generalize w15.drew = wA at *
                                clear hxd cK1 hk5
                                obtain ⟨g, c, cur, hv, hbk, hcs, hcur⟩ := owns_blk k31.err.1 (by omega)
                                cases hv
                                have li2 := (⟨mv3, σ3, k31, k32, k33⟩ : LInv w1.heap.size n ls (.slice (some ⟨b7, 0, none⟩) (n + 1) q7) (.slice (some ⟨b8, 0, none⟩) n q8) (.slice (some ⟨b9, 0, none⟩) n q9) (.slice (some ⟨b10, 0, none⟩) n q10) σk w10 (fA esN es j) (fA msN ms (j + 1)) wA)
                                have herr := k31.err.1
                                have LI3 := Lib.hid li2
                                have HBK := Lib.hid hbk
                                have HERR := Lib.hid herr
                                clear li2 hbk herr
                                clear k31 k32 k33 hcur
                                refine wpAnyK_takeL (i := 0) (v := ?_) rfl (by kernel_rfl) (by kernel_rfl) (by kernel_rfl) (by kernel_rfl) (fun _ _ _ h => h) (Or.inl ⟨by rfl, ?_⟩) hHeld ?_
                                rotate_left
                                · intro w hSw; (try dsimp only at hSw); go_simp; (try with_reducible rfl)
                                try simp only [Act.put, List.setIfInBounds_toArray, List.set_cons_zero, List.set_cons_succ]
                                refine wpAnyK_takeL (i := 1) (v := ?_) rfl (by kernel_rfl) (by kernel_rfl) (by kernel_rfl) (by kernel_rfl) (fun _ _ _ h => h) (Or.inl ⟨by rfl, ?_⟩) hHeld ?_
                                rotate_left
                                · intro w hSw; (try dsimp only at hSw); go_simp; (try with_reducible rfl)
                                try simp only [Act.put, List.setIfInBounds_toArray, List.set_cons_zero, List.set_cons_succ]
                                refine wpAnyK_takeL (i := 2) (v := ?_) rfl (by kernel_rfl) (by kernel_rfl) (by kernel_rfl) (by kernel_rfl) (fun _ _ _ h => h) (Or.inl ⟨by rfl, ?_⟩) hHeld ?_
                                rotate_left
                                · intro w hSw; (try dsimp only at hSw); go_simp; (try with_reducible rfl)
                                try simp only [Act.put, List.setIfInBounds_toArray, List.set_cons_zero, List.set_cons_succ]
                                refine wpAnyK_takeL (i := 3) (v := ?_) rfl (by kernel_rfl) (by kernel_rfl) (by kernel_rfl) (by kernel_rfl) (fun _ _ _ h => h) (Or.inl ⟨by rfl, ?_⟩) hHeld ?_
                                rotate_left
                                · intro w hSw; (try dsimp only at hSw); go_simp; (try with_reducible rfl)
                                try simp only [Act.put, List.setIfInBounds_toArray, List.set_cons_zero, List.set_cons_succ]
                                refine wpAnyK_takeL (i := 4) (v := ?_) rfl (by kernel_rfl) (by kernel_rfl) (by kernel_rfl) (by kernel_rfl) (fun _ _ _ h => h) (Or.inl ⟨by rfl, ?_⟩) hHeld ?_
                                rotate_left
                                · intro w hSw; (try dsimp only at hSw); go_simp; (try with_reducible rfl)
                                try simp only [Act.put, List.setIfInBounds_toArray, List.set_cons_zero, List.set_cons_succ]
                                refine wpAnyK_takeL (i := 5) (v := ?_) rfl (by kernel_rfl) (by kernel_rfl) (by kernel_rfl) (by kernel_rfl) (fun _ _ _ h => h) (Or.inl ⟨by rfl, ?_⟩) hHeld ?_
                                rotate_left
                                · intro w hSw; (try dsimp only at hSw); go_simp; (try with_reducible rfl)
                                try simp only [Act.put, List.setIfInBounds_toArray, List.set_cons_zero, List.set_cons_succ]
                                refine wpAnyK_takeL (i := 6) (v := ?_) rfl (by kernel_rfl) (by kernel_rfl) (by kernel_rfl) (by kernel_rfl) (fun _ _ _ h => h) (Or.inl ⟨by rfl, ?_⟩) hHeld ?_
                                rotate_left
                                · intro w hSw; (try dsimp only at hSw); go_simp; (try with_reducible rfl)
                                try simp only [Act.put, List.setIfInBounds_toArray, List.set_cons_zero, List.set_cons_succ]
                                refine wpAnyK_takeL (i := 7) (v := ?_) rfl (by kernel_rfl) (by kernel_rfl) (by kernel_rfl) (by kernel_rfl) (fun _ _ _ h => h) (Or.inl ⟨by rfl, ?_⟩) hHeld ?_
                                rotate_left
                                · intro w hSw; (try dsimp only at hSw); go_simp; (try with_reducible rfl)
                                try simp only [Act.put, List.setIfInBounds_toArray, List.set_cons_zero, List.set_cons_succ]
                                refine wpAnyK_takeL (i := 8) (v := ?_) rfl (by kernel_rfl) (by kernel_rfl) (by kernel_rfl) (by kernel_rfl) (fun _ _ _ h => h) (Or.inl ⟨by rfl, ?_⟩) hHeld ?_
                                rotate_left
                                · intro w hSw; (try dsimp only at hSw); go_simp; (try with_reducible rfl)
                                try simp only [Act.put, List.setIfInBounds_toArray, List.set_cons_zero, List.set_cons_succ]
                                refine wpAnyK_takeL (i := 9) (v := ?_) rfl (by kernel_rfl) (by kernel_rfl) (by kernel_rfl) (by kernel_rfl) (fun _ _ _ h => h) (Or.inl ⟨by rfl, ?_⟩) hHeld ?_
                                rotate_left
                                · intro w hSw; (try dsimp only at hSw); go_simp; (try with_reducible rfl)
                                try simp only [Act.put, List.setIfInBounds_toArray, List.set_cons_zero, List.set_cons_succ]
                                refine wpAnyK_takeL (i := 10) (v := ?_) rfl (by kernel_rfl) (by kernel_rfl) (by kernel_rfl) (by kernel_rfl) (fun _ _ _ h => h) (Or.inl ⟨by rfl, ?_⟩) hHeld ?_
                                rotate_left
                                · intro w hSw; (try dsimp only at hSw); go_simp; (try with_reducible rfl)
                                try simp only [Act.put, List.setIfInBounds_toArray, List.set_cons_zero, List.set_cons_succ]
                                refine wpAnyK_takeL (i := 11) (v := ?_) rfl (by kernel_rfl) (by kernel_rfl) (by kernel_rfl) (by kernel_rfl) (fun _ _ _ h => h) (Or.inl ⟨by rfl, ?_⟩) hHeld ?_
                                rotate_left
                                · intro w hSw; (try dsimp only at hSw); go_simp; (try with_reducible rfl)
                                try simp only [Act.put, List.setIfInBounds_toArray, List.set_cons_zero, List.set_cons_succ]
                                refine wpAnyK_takeL (i := 12) (v := ?_) rfl (by kernel_rfl) (by kernel_rfl) (by kernel_rfl) (by kernel_rfl) (fun _ _ _ h => h) (Or.inl ⟨by rfl, ?_⟩) hHeld ?_
                                rotate_left
                                · intro w hSw; (try dsimp only at hSw); go_simp; (try with_reducible rfl)
                                try simp only [Act.put, List.setIfInBounds_toArray, List.set_cons_zero, List.set_cons_succ]
                                refine wpAnyK_takeL (i := 13) (v := ?_) rfl (by kernel_rfl) (by kernel_rfl) (by kernel_rfl) (by kernel_rfl) (fun _ _ _ h => h) (Or.inl ⟨by rfl, ?_⟩) hHeld ?_
                                rotate_left
                                · intro w hSw; (try dsimp only at hSw); go_simp; (try with_reducible rfl)
                                try simp only [Act.put, List.setIfInBounds_toArray, List.set_cons_zero, List.set_cons_succ]
                                refine wpAnyK_takeL (i := 14) (v := ?_) rfl (by kernel_rfl) (by kernel_rfl) (by kernel_rfl) (by kernel_rfl) (fun _ _ _ h => h) (Or.inl ⟨by rfl, ?_⟩) hHeld ?_
                                rotate_left
                                · intro w hSw; (try dsimp only at hSw); go_simp; (try with_reducible rfl)
                                try simp only [Act.put, List.setIfInBounds_toArray, List.set_cons_zero, List.set_cons_succ]
                                refine wpAnyK_takeL (i := 15) (v := ?_) rfl (by kernel_rfl) (by kernel_rfl) (by kernel_rfl) (by kernel_rfl) (fun _ _ _ h => h) (Or.inl ⟨by rfl, ?_⟩) hHeld ?_
                                rotate_left
                                · intro w hSw; (try dsimp only at hSw); go_simp; (try with_reducible rfl)
                                try simp only [Act.put, List.setIfInBounds_toArray, List.set_cons_zero, List.set_cons_succ]
                                refine wpAnyK_takeL (i := 16) (v := ?_) rfl (by kernel_rfl) (by kernel_rfl) (by kernel_rfl) (by kernel_rfl) (fun _ _ _ h => h) (Or.inl ⟨by rfl, ?_⟩) hHeld ?_
                                rotate_left
                                · intro w hSw; (try dsimp only at hSw); go_simp; (try with_reducible rfl)
                                try simp only [Act.put, List.setIfInBounds_toArray, List.set_cons_zero, List.set_cons_succ]
                                refine wpAnyK_takeL (i := 17) (v := ?_) rfl (by kernel_rfl) (by kernel_rfl) (by kernel_rfl) (by kernel_rfl) (fun _ _ _ h => h) (Or.inl ⟨by rfl, ?_⟩) hHeld ?_
                                rotate_left
                                · intro w hSw; (try dsimp only at hSw); go_simp; (try with_reducible rfl)
                                try simp only [Act.put, List.setIfInBounds_toArray, List.set_cons_zero, List.set_cons_succ]
                                clear hHeld
                                refine wpAnyK_ready (rs := [18]) (by kernel_rfl) (by simp) ?_
                                refine AllReadyK.consL (i := 18) rfl (fun K hK => ?_) ?_
                                · go_simp
                                  refine hK.out _ _ (fun h => absurd h (by decide)) (fun hHeld2 => ?_)
                                  clear hK K hHeld2
                                  try clear hHeld
                                  try simp only [Act.put, List.setIfInBounds_toArray, List.set_cons_zero, List.set_cons_succ]
                                  refine wpAnyK_ready (rs := [19]) (by kernel_rfl) (by simp) ?_
                                  refine AllReadyK.consL (i := 19) rfl (fun K hK => ?_) ?_
                                  · refine step_setK (v := .int .i64 ej1) rfl rfl HBK.out rfl rfl (by omega) (by kernel_rfl) rfl (by simp [Value.oneCell']) ?_
                                    intro w16 hw16 hb16 ho16
                                    have hown := owns_put HERR.out HBK.out hb16
                                    have li : LInv w1.heap.size n ls (.slice (some ⟨b7, 0, none⟩) (n + 1) q7) (.slice (some ⟨b8, 0, none⟩) n q8) (.slice (some ⟨b9, 0, none⟩) n q9) (.slice (some ⟨b10, 0, none⟩) n q10) σk w10 (upd (fA esN es j) j ej1) (fA msN ms (j + 1)) w16 := LInv.err LI3.out rfl hlt3 ho16 hown
                                    have LI4 := Lib.hid li
                                    clear li
                                    clear hw16 hb16 ho16 hown HBK HERR LI3
                                    refine hK.out _ _ (fun h => absurd h (by decide)) (fun hHeld2 => ?_)
                                    clear hK K hHeld2
                                    try clear hHeld
                                    try simp only [Act.put, List.setIfInBounds_toArray, List.set_cons_zero, List.set_cons_succ]
                                    refine wpAnyK_done (by kernel_rfl) ?_ _
                                    clear e1 e2 e5
                                    go_upto_region 48 with (fail)
                                    obtain ⟨wX, rfl⟩ : ∃ W, W = w16 := ⟨w16, rfl⟩
                                    have hxd : Ext wX wX.drew := (Below.refl _ wX).drew
                                    obtain ⟨mv3, σ3, k31, k32, k33⟩ := LI4.out
                                    replace k31 := k31.ext hxd
                                    replace k33 := k33.tr (Only.of_ext hxd)
                                    obtain ⟨yj, hyj⟩ : ∃ y, y = gD ns (5 + j) := ⟨_, rfl⟩
                                    obtain ⟨zj, hzj⟩ : ∃ y, y = (yj * NZ).tdiv 1000 := ⟨_, rfl⟩
                                    have hyb := HB17.out (5 + j)
                                    rw [← hyj] at hyb
                                    obtain ⟨ok3, l3⟩ := HNZB.out
                                    have hzb := tdiv_bd yj NZ ok3 hyb
                                    rw [← hzj] at hzb
                                    obtain ⟨yb1, yb2⟩ := hyb
                                    obtain ⟨zb1, zb2⟩ := hzb
                                    have hm2 : -(1000 * NZ) ≤ yj * NZ ∧ yj * NZ ≤ 1000 * NZ := ⟨by have := Int.mul_le_mul_of_nonneg_right yb1 ok3; omega, by have := Int.mul_le_mul_of_nonneg_right yb2 ok3; omega⟩
                                    obtain ⟨hm21, hm22⟩ := hm2
                                    have q1 : wX.drew.cell? ⟨b8, j * 4 + 1, none⟩ = some (.int .i64 NZ) := by rw [← HNZ.out]; exact owns_at k31.lps.1 rfl (j * 4 + 1) _ (LC.out 1 hlt3 (by omega))
                                    have q2 : wX.drew.cell? ⟨b9, j, none⟩ = some (.int .i64 ej1) := by
                                      have h := owns_at k31.err.1 rfl j _ (mpI_cell _ n j hlt3)
                                      rw [upd_same] at h; exact h
                                    have q3 : wX.drew.cell? ⟨gn, 5 + j, none⟩ = some (.int .i64 yj) := by rw [hyj]; exact k33.cell (C10.out (5 + j) (by omega)) (fun h => h ZGN.out)
                                    obtain ⟨iq, hiq⟩ : ∃ iq, iq = 5 + j := ⟨_, rfl⟩
                                    obtain ⟨hj1, hj2⟩ := HJB.out
                                    rw [← hiq] at q3
                                    have e1 : IntKind.i64.wrap (5 + (j:Int)) = (iq:Int) := by rw [i64_eq _ (by omega)]; omega
                                    have e2 : IntKind.i64.wrap (yj * NZ) = yj * NZ := i64_eq _ (by omega)
                                    have e3 : IntKind.i64.wrap ((yj * NZ).tdiv 1000) = zj := by rw [← hzj]; exact i64_eq _ (by omega)
                                    have e4 : IntKind.i64.wrap (ej1 + zj) = ej1 + zj := i64_eq _ (by omega)
                                    have e7 : (iq:Int) < 8 := by omega
                                    obtain ⟨g, c, cur, hv, hbk, hcs, hcur⟩ := owns_blk k31.err.1 (by omega)
                                    cases hv
                                    have li2 := (⟨mv3, σ3, k31, k32, k33⟩ : LInv w1.heap.size n ls (.slice (some ⟨b7, 0, none⟩) (n + 1) q7) (.slice (some ⟨b8, 0, none⟩) n q8) (.slice (some ⟨b9, 0, none⟩) n q9) (.slice (some ⟨b10, 0, none⟩) n q10) σk w10 (upd (fA esN es j) j ej1) (fA msN ms (j + 1)) wX.drew)
                                    have herr := k31.err.1
                                    have LI3 := Lib.hid li2
                                    have HBK := Lib.hid hbk
                                    have HERR := Lib.hid herr
                                    have HYJ := Lib.hid hyj
                                    have HZJ := Lib.hid hzj
                                    clear li2 hbk herr hyj hzj
                                    clear k31 k32 k33 hcur hxd LI4 yb1 yb2 zb1 zb2 hm21 hm22 hj1 hj2 ok3 l3 hiq
                                    refine wp_region_K (fun wx => wx.cell? ⟨b9, j, none⟩ = some (.int .i64 ej1) ∧ wx.cell? ⟨gn, iq, none⟩ = some (.int .i64 yj) ∧ wx.cell? ⟨b8, j * 4 + 1, none⟩ = some (.int .i64 NZ)) 17 (by kernel_rfl) ⟨q2, q3, q1⟩ (fun hHeld => ?_)
                                    generalize wX.drew = wA at *
                                    refine wpAnyK_takeL (i := 0) (v := ?_) rfl (by kernel_rfl) (by kernel_rfl) (by kernel_rfl) (by kernel_rfl) (fun _ _ _ h => h) (Or.inl ⟨by rfl, ?_⟩) hHeld ?_
                                    rotate_left
                                    · intro w hSw; (try dsimp only at hSw); go_simp; (try with_reducible rfl)
                                    try simp only [Act.put, List.setIfInBounds_toArray, List.set_cons_zero, List.set_cons_succ]
                                    refine wpAnyK_takeL (i := 1) (v := ?_) rfl (by kernel_rfl) (by kernel_rfl) (by kernel_rfl) (by kernel_rfl) (fun _ _ _ h => h) (Or.inl ⟨by rfl, ?_⟩) hHeld ?_
                                    rotate_left
                                    · intro w hSw; (try dsimp only at hSw); go_simp; (try with_reducible rfl)
                                    try simp only [Act.put, List.setIfInBounds_toArray, List.set_cons_zero, List.set_cons_succ]
                                    refine wpAnyK_takeL (i := 2) (v := ?_) rfl (by kernel_rfl) (by kernel_rfl) (by kernel_rfl) (by kernel_rfl) (fun _ _ _ h => h) (Or.inl ⟨by rfl, ?_⟩) hHeld ?_
                                    rotate_left
                                    · intro w hSw; (try dsimp only at hSw); go_simp; (try with_reducible rfl)
                                    try simp only [Act.put, List.setIfInBounds_toArray, List.set_cons_zero, List.set_cons_succ]
                                    refine wpAnyK_takeL (i := 3) (v := ?_) rfl (by kernel_rfl) (by kernel_rfl) (by kernel_rfl) (by kernel_rfl) (fun _ _ _ h => h) (Or.inl ⟨by rfl, ?_⟩) hHeld ?_
                                    rotate_left
                                    · intro w hSw; (try dsimp only at hSw); go_simp; (try with_reducible rfl)
                                    try simp only [Act.put, List.setIfInBounds_toArray, List.set_cons_zero, List.set_cons_succ]
                                    refine wpAnyK_takeL (i := 4) (v := ?_) rfl (by kernel_rfl) (by kernel_rfl) (by kernel_rfl) (by kernel_rfl) (fun _ _ _ h => h) (Or.inl ⟨by rfl, ?_⟩) hHeld ?_
                                    rotate_left
                                    · intro w hSw; (try dsimp only at hSw); go_simp; (try with_reducible rfl)
                                    try simp only [Act.put, List.setIfInBounds_toArray, List.set_cons_zero, List.set_cons_succ]
                                    refine wpAnyK_takeL (i := 5) (v := ?_) rfl (by kernel_rfl) (by kernel_rfl) (by kernel_rfl) (by kernel_rfl) (fun _ _ _ h => h) (Or.inl ⟨by rfl, ?_⟩) hHeld ?_
                                    rotate_left
                                    · intro w hSw; (try dsimp only at hSw); go_simp; (try with_reducible rfl)
                                    try simp only [Act.put, List.setIfInBounds_toArray, List.set_cons_zero, List.set_cons_succ]
                                    refine wpAnyK_takeL (i := 6) (v := ?_) rfl (by kernel_rfl) (by kernel_rfl) (by kernel_rfl) (by kernel_rfl) (fun _ _ _ h => h) (Or.inl ⟨by rfl, ?_⟩) hHeld ?_
                                    rotate_left
                                    · intro w hSw; (try dsimp only at hSw); go_simp; (try with_reducible rfl)
                                    try simp only [Act.put, List.setIfInBounds_toArray, List.set_cons_zero, List.set_cons_succ]
                                    refine wpAnyK_takeL (i := 7) (v := ?_) rfl (by kernel_rfl) (by kernel_rfl) (by kernel_rfl) (by kernel_rfl) (fun _ _ _ h => h) (Or.inl ⟨by rfl, ?_⟩) hHeld ?_
                                    rotate_left
                                    · intro w hSw; (try dsimp only at hSw); go_simp; (try with_reducible rfl)
                                    try simp only [Act.put, List.setIfInBounds_toArray, List.set_cons_zero, List.set_cons_succ]
                                    refine wpAnyK_takeL (i := 8) (v := ?_) rfl (by kernel_rfl) (by kernel_rfl) (by kernel_rfl) (by kernel_rfl) (fun _ _ _ h => h) (Or.inl ⟨by rfl, ?_⟩) hHeld ?_
                                    rotate_left
                                    · intro w hSw; (try dsimp only at hSw); go_simp; (try with_reducible rfl)
                                    try simp only [Act.put, List.setIfInBounds_toArray, List.set_cons_zero, List.set_cons_succ]
                                    refine wpAnyK_takeL (i := 9) (v := ?_) rfl (by kernel_rfl) (by kernel_rfl) (by kernel_rfl) (by kernel_rfl) (fun _ _ _ h => h) (Or.inl ⟨by rfl, ?_⟩) hHeld ?_
                                    rotate_left
                                    · intro w hSw; (try dsimp only at hSw); go_simp; (try with_reducible rfl)
                                    try simp only [Act.put, List.setIfInBounds_toArray, List.set_cons_zero, List.set_cons_succ]
                                    refine wpAnyK_takeL (i := 10) (v := ?_) rfl (by kernel_rfl) (by kernel_rfl) (by kernel_rfl) (by kernel_rfl) (fun _ _ _ h => h) (Or.inl ⟨by rfl, ?_⟩) hHeld ?_
                                    rotate_left
                                    · intro w hSw; (try dsimp only at hSw); go_simp; (try with_reducible rfl)
                                    try simp only [Act.put, List.setIfInBounds_toArray, List.set_cons_zero, List.set_cons_succ]
                                    refine wpAnyK_takeL (i := 11) (v := ?_) rfl (by kernel_rfl) (by kernel_rfl) (by kernel_rfl) (by kernel_rfl) (fun _ _ _ h => h) (Or.inl ⟨by rfl, ?_⟩) hHeld ?_
                                    rotate_left
                                    · intro w hSw; (try dsimp only at hSw); go_simp; (try with_reducible rfl)
                                    try simp only [Act.put, List.setIfInBounds_toArray, List.set_cons_zero, List.set_cons_succ]
                                    refine wpAnyK_takeL (i := 12) (v := ?_) rfl (by kernel_rfl) (by kernel_rfl) (by kernel_rfl) (by kernel_rfl) (fun _ _ _ h => h) (Or.inl ⟨by rfl, ?_⟩) hHeld ?_
                                    rotate_left
                                    · intro w hSw; (try dsimp only at hSw); go_simp; (try with_reducible rfl)
                                    try simp only [Act.put, List.setIfInBounds_toArray, List.set_cons_zero, List.set_cons_succ]
                                    refine wpAnyK_takeL (i := 13) (v := ?_) rfl (by kernel_rfl) (by kernel_rfl) (by kernel_rfl) (by kernel_rfl) (fun _ _ _ h => h) (Or.inl ⟨by rfl, ?_⟩) hHeld ?_
                                    rotate_left
                                    · intro w hSw; (try dsimp only at hSw); go_simp; (try with_reducible rfl)
                                    try simp only [Act.put, List.setIfInBounds_toArray, List.set_cons_zero, List.set_cons_succ]
                                    refine wpAnyK_takeL (i := 14) (v := ?_) rfl (by kernel_rfl) (by kernel_rfl) (by kernel_rfl) (by kernel_rfl) (fun _ _ _ h => h) (Or.inl ⟨by rfl, ?_⟩) hHeld ?_
                                    rotate_left
                                    · intro w hSw; (try dsimp only at hSw); go_simp; (try with_reducible rfl)
                                    try simp only [Act.put, List.setIfInBounds_toArray, List.set_cons_zero, List.set_cons_succ]
                                    refine wpAnyK_takeL (i := 15) (v := ?_) rfl (by kernel_rfl) (by kernel_rfl) (by kernel_rfl) (by kernel_rfl) (fun _ _ _ h => h) (Or.inl ⟨by rfl, ?_⟩) hHeld ?_
                                    rotate_left
                                    · intro w hSw; (try dsimp only at hSw); go_simp; (try with_reducible rfl)
                                    try simp only [Act.put, List.setIfInBounds_toArray, List.set_cons_zero, List.set_cons_succ]
                                    refine wpAnyK_takeL (i := 16) (v := ?_) rfl (by kernel_rfl) (by kernel_rfl) (by kernel_rfl) (by kernel_rfl) (fun _ _ _ h => h) (Or.inl ⟨by rfl, ?_⟩) hHeld ?_
                                    rotate_left
                                    · intro w hSw; (try dsimp only at hSw); go_simp; (try with_reducible rfl)
                                    try simp only [Act.put, List.setIfInBounds_toArray, List.set_cons_zero, List.set_cons_succ]
                                    clear hHeld
                                    refine wpAnyK_ready (rs := [17]) (by kernel_rfl) (by simp) ?_
                                    refine AllReadyK.consL (i := 17) rfl (fun K hK => ?_) ?_
                                    · go_simp
                                      refine hK.out _ _ (fun h => absurd h (by decide)) (fun hHeld2 => ?_)
                                      clear hK K hHeld2
                                      try clear hHeld
                                      try simp only [Act.put, List.setIfInBounds_toArray, List.set_cons_zero, List.set_cons_succ]
                                      refine wpAnyK_ready (rs := [18]) (by kernel_rfl) (by simp) ?_
                                      refine AllReadyK.consL (i := 18) rfl (fun K hK => ?_) ?_
                                      · refine step_setK (v := .int .i64 (ej1 + zj)) rfl rfl HBK.out rfl rfl (by omega) (by kernel_rfl) rfl (by simp [Value.oneCell']) ?_
                                        intro w18 hw18 hb18 ho18
                                        have hown := owns_put HERR.out HBK.out hb18
                                        have li : LInv w1.heap.size n ls (.slice (some ⟨b7, 0, none⟩) (n + 1) q7) (.slice (some ⟨b8, 0, none⟩) n q8) (.slice (some ⟨b9, 0, none⟩) n q9) (.slice (some ⟨b10, 0, none⟩) n q10) σk w10 (upd (upd (fA esN es j) j ej1) j (ej1 + zj)) (fA msN ms (j + 1)) w18 := LInv.err LI3.out rfl hlt3 ho18 hown
                                        rw [upd_upd] at li
                                        have eN : ej1 + zj = esN j := by
                                          rw [ESN.out, HEJ1.out, HMVV.out, HEJ.out, HZJ.out, HYJ.out, ← HNZ.out]
                                          dsimp only
                                          rw [← HLV.out, ← HUJ.out, HDN.out]
                                        rw [eN, fA_upd] at li
                                        have LI5 := Lib.hid li
                                        clear li
                                        clear hw18 hb18 ho18 hown HBK HERR LI3
                                        refine hK.out _ _ (fun h => absurd h (by decide)) (fun hHeld2 => ?_)
                                        clear hK K hHeld2
                                        try clear hHeld
                                        try simp only [Act.put, List.setIfInBounds_toArray, List.set_cons_zero, List.set_cons_succ]
                                        refine wpAnyK_done (by kernel_rfl) ?_ _
                                        clear e1 e2 e3 e4 e7
                                        go_wp2
                                        go_roundw
                                        case rel => exact ⟨j + 1, by omega, by go_num, LI5.out⟩
                                        case measure => simp [intOf]; omega
                                      · exact AllReadyK.nil
                                    · exact AllReadyK.nil
                                  · exact AllReadyK.nil
                                · exact AllReadyK.nil
                            · skip
                              as_aux_lemma =>
                                have d6 : decide ((D:Int) ≤ (k:Int)) = false := decide_eq_false (by omega)
                                have cK1 := K1.out
                                have hej2 : ej1 = ej := by rw [HEJ1.out, if_neg hge]; omega
                                have li := LI2.out
                                have HJB := Lib.hid hej1b
                                clear hej1b
                                have hself : upd (fA esN es j) j ej1 = fA esN es j := by
                                  rw [hej2, HEJ.out]
                                  have := upd_self (fA esN es j) j
                                  rwa [fA_at] at this
                                rw [← hself] at li
                                have LI4 := Lib.hid li
                                clear li
                                clear hself hej2
                                go_upto_region 48 with (fail)
                                clear cK1 d6
                                obtain ⟨wX, rfl⟩ : ∃ W, W = w15 := ⟨w15, rfl⟩
                                have hxd : Ext wX wX.drew := (Below.refl _ wX).drew
                                obtain ⟨mv3, σ3, k31, k32, k33⟩ := LI4.out
                                replace k31 := k31.ext hxd
                                replace k33 := k33.tr (Only.of_ext hxd)
                                obtain ⟨yj, hyj⟩ : ∃ y, y = gD ns (5 + j) := ⟨_, rfl⟩
                                obtain ⟨zj, hzj⟩ : ∃ y, y = (yj * NZ).tdiv 1000 := ⟨_, rfl⟩
                                have hyb := HB17.out (5 + j)
                                rw [← hyj] at hyb
                                obtain ⟨ok3, l3⟩ := HNZB.out
                                have hzb := tdiv_bd yj NZ ok3 hyb
                                rw [← hzj] at hzb
                                obtain ⟨yb1, yb2⟩ := hyb
                                obtain ⟨zb1, zb2⟩ := hzb
                                have hm2 : -(1000 * NZ) ≤ yj * NZ ∧ yj * NZ ≤ 1000 * NZ := ⟨by have := Int.mul_le_mul_of_nonneg_right yb1 ok3; omega, by have := Int.mul_le_mul_of_nonneg_right yb2 ok3; omega⟩
                                obtain ⟨hm21, hm22⟩ := hm2
                                have q1 : wX.drew.cell? ⟨b8, j * 4 + 1, none⟩ = some (.int .i64 NZ) := by rw [← HNZ.out]; exact owns_at k31.lps.1 rfl (j * 4 + 1) _ (LC.out 1 hlt3 (by omega))
                                have q2 : wX.drew.cell? ⟨b9, j, none⟩ = some (.int .i64 ej1) := by
                                  have h := owns_at k31.err.1 rfl j _ (mpI_cell _ n j hlt3)
                                  rw [upd_same] at h; exact h
                                have q3 : wX.drew.cell? ⟨gn, 5 + j, none⟩ = some (.int .i64 yj) := by rw [hyj]; exact k33.cell (C10.out (5 + j) (by omega)) (fun h => h ZGN.out)
                                obtain ⟨iq, hiq⟩ : ∃ iq, iq = 5 + j := ⟨_, rfl⟩
                                obtain ⟨hj1, hj2⟩ := HJB.out
                                rw [← hiq] at q3
                                have e1 : IntKind.i64.wrap (5 + (j:Int)) = (iq:Int) := by rw [i64_eq _ (by omega)]; omega
                                have e2 : IntKind.i64.wrap (yj * NZ) = yj * NZ := i64_eq _ (by omega)
                                have e3 : IntKind.i64.wrap ((yj * NZ).tdiv 1000) = zj := by rw [← hzj]; exact i64_eq _ (by omega)
                                have e4 : IntKind.i64.wrap (ej1 + zj) = ej1 + zj := i64_eq _ (by omega)
                                have e7 : (iq:Int) < 8 := by omega
                                obtain ⟨g, c, cur, hv, hbk, hcs, hcur⟩ := owns_blk k31.err.1 (by omega)
                                cases hv
                                have li2 := (⟨mv3, σ3, k31, k32, k33⟩ : LInv w1.heap.size n ls (.slice (some ⟨b7, 0, none⟩) (n + 1) q7) (.slice (some ⟨b8, 0, none⟩) n q8) (.slice (some ⟨b9, 0, none⟩) n q9) (.slice (some ⟨b10, 0, none⟩) n q10) σk w10 (upd (fA esN es j) j ej1) (fA msN ms (j + 1)) wX.drew)
                                have herr := k31.err.1
                                have LI3 := Lib.hid li2
                                have HBK := Lib.hid hbk
                                have HERR := Lib.hid herr
                                have HYJ := Lib.hid hyj
                                have HZJ := Lib.hid hzj
                                clear li2 hbk herr hyj hzj
                                clear k31 k32 k33 hcur hxd LI4 yb1 yb2 zb1 zb2 hm21 hm22 hj1 hj2 ok3 l3 hiq
                                refine wp_region_K (fun wx => wx.cell? ⟨b9, j, none⟩ = some (.int .i64 ej1) ∧ wx.cell? ⟨gn, iq, none⟩ = some (.int .i64 yj) ∧ wx.cell? ⟨b8, j * 4 + 1, none⟩ = some (.int .i64 NZ)) 17 (by kernel_rfl) ⟨q2, q3, q1⟩ (fun hHeld => ?_)
                                generalize wX.drew = wA at *
                                refine wpAnyK_takeL (i := 0) (v := ?_) rfl (by kernel_rfl) (by kernel_rfl) (by kernel_rfl) (by kernel_rfl) (fun _ _ _ h => h) (Or.inl ⟨by rfl, ?_⟩) hHeld ?_
                                rotate_left
                                · intro w hSw; (try dsimp only at hSw); go_simp; (try with_reducible rfl)
                                try simp only [Act.put, List.setIfInBounds_toArray, List.set_cons_zero, List.set_cons_succ]
                                refine wpAnyK_takeL (i := 1) (v := ?_) rfl (by kernel_rfl) (by kernel_rfl) (by kernel_rfl) (by kernel_rfl) (fun _ _ _ h => h) (Or.inl ⟨by rfl, ?_⟩) hHeld ?_
                                rotate_left
                                · intro w hSw; (try dsimp only at hSw); go_simp; (try with_reducible rfl)
                                try simp only [Act.put, List.setIfInBounds_toArray, List.set_cons_zero, List.set_cons_succ]
                                refine wpAnyK_takeL (i := 2) (v := ?_) rfl (by kernel_rfl) (by kernel_rfl) (by kernel_rfl) (by kernel_rfl) (fun _ _ _ h => h) (Or.inl ⟨by rfl, ?_⟩) hHeld ?_
                                rotate_left
                                · intro w hSw; (try dsimp only at hSw); go_simp; (try with_reducible rfl)
                                try simp only [Act.put, List.setIfInBounds_toArray, List.set_cons_zero, List.set_cons_succ]
                                refine wpAnyK_takeL (i := 3) (v := ?_) rfl (by kernel_rfl) (by kernel_rfl) (by kernel_rfl) (by kernel_rfl) (fun _ _ _ h => h) (Or.inl ⟨by rfl, ?_⟩) hHeld ?_
                                rotate_left
                                · intro w hSw; (try dsimp only at hSw); go_simp; (try with_reducible rfl)
                                try simp only [Act.put, List.setIfInBounds_toArray, List.set_cons_zero, List.set_cons_succ]
                                refine wpAnyK_takeL (i := 4) (v := ?_) rfl (by kernel_rfl) (by kernel_rfl) (by kernel_rfl) (by kernel_rfl) (fun _ _ _ h => h) (Or.inl ⟨by rfl, ?_⟩) hHeld ?_
                                rotate_left
                                · intro w hSw; (try dsimp only at hSw); go_simp; (try with_reducible rfl)
                                try simp only [Act.put, List.setIfInBounds_toArray, List.set_cons_zero, List.set_cons_succ]
                                refine wpAnyK_takeL (i := 5) (v := ?_) rfl (by kernel_rfl) (by kernel_rfl) (by kernel_rfl) (by kernel_rfl) (fun _ _ _ h => h) (Or.inl ⟨by rfl, ?_⟩) hHeld ?_
                                rotate_left
                                · intro w hSw; (try dsimp only at hSw); go_simp; (try with_reducible rfl)
                                try simp only [Act.put, List.setIfInBounds_toArray, List.set_cons_zero, List.set_cons_succ]
                                refine wpAnyK_takeL (i := 6) (v := ?_) rfl (by kernel_rfl) (by kernel_rfl) (by kernel_rfl) (by kernel_rfl) (fun _ _ _ h => h) (Or.inl ⟨by rfl, ?_⟩) hHeld ?_
                                rotate_left
                                · intro w hSw; (try dsimp only at hSw); go_simp; (try with_reducible rfl)
                                try simp only [Act.put, List.setIfInBounds_toArray, List.set_cons_zero, List.set_cons_succ]
                                refine wpAnyK_takeL (i := 7) (v := ?_) rfl (by kernel_rfl) (by kernel_rfl) (by kernel_rfl) (by kernel_rfl) (fun _ _ _ h => h) (Or.inl ⟨by rfl, ?_⟩) hHeld ?_
                                rotate_left
                                · intro w hSw; (try dsimp only at hSw); go_simp; (try with_reducible rfl)
                                try simp only [Act.put, List.setIfInBounds_toArray, List.set_cons_zero, List.set_cons_succ]
                                refine wpAnyK_takeL (i := 8) (v := ?_) rfl (by kernel_rfl) (by kernel_rfl) (by kernel_rfl) (by kernel_rfl) (fun _ _ _ h => h) (Or.inl ⟨by rfl, ?_⟩) hHeld ?_
                                rotate_left
                                · intro w hSw; (try dsimp only at hSw); go_simp; (try with_reducible rfl)
                                try simp only [Act.put, List.setIfInBounds_toArray, List.set_cons_zero, List.set_cons_succ]
                                refine wpAnyK_takeL (i := 9) (v := ?_) rfl (by kernel_rfl) (by kernel_rfl) (by kernel_rfl) (by kernel_rfl) (fun _ _ _ h => h) (Or.inl ⟨by rfl, ?_⟩) hHeld ?_
                                rotate_left
                                · intro w hSw; (try dsimp only at hSw); go_simp; (try with_reducible rfl)
                                try simp only [Act.put, List.setIfInBounds_toArray, List.set_cons_zero, List.set_cons_succ]
                                refine wpAnyK_takeL (i := 10) (v := ?_) rfl (by kernel_rfl) (by kernel_rfl) (by kernel_rfl) (by kernel_rfl) (fun _ _ _ h => h) (Or.inl ⟨by rfl, ?_⟩) hHeld ?_
                                rotate_left
                                · intro w hSw; (try dsimp only at hSw); go_simp; (try with_reducible rfl)
                                try simp only [Act.put, List.setIfInBounds_toArray, List.set_cons_zero, List.set_cons_succ]
                                refine wpAnyK_takeL (i := 11) (v := ?_) rfl (by kernel_rfl) (by kernel_rfl) (by kernel_rfl) (by kernel_rfl) (fun _ _ _ h => h) (Or.inl ⟨by rfl, ?_⟩) hHeld ?_
                                rotate_left
                                · intro w hSw; (try dsimp only at hSw); go_simp; (try with_reducible rfl)
                                try simp only [Act.put, List.setIfInBounds_toArray, List.set_cons_zero, List.set_cons_succ]
                                refine wpAnyK_takeL (i := 12) (v := ?_) rfl (by kernel_rfl) (by kernel_rfl) (by kernel_rfl) (by kernel_rfl) (fun _ _ _ h => h) (Or.inl ⟨by rfl, ?_⟩) hHeld ?_
                                rotate_left
                                · intro w hSw; (try dsimp only at hSw); go_simp; (try with_reducible rfl)
                                try simp only [Act.put, List.setIfInBounds_toArray, List.set_cons_zero, List.set_cons_succ]
                                refine wpAnyK_takeL (i := 13) (v := ?_) rfl (by kernel_rfl) (by kernel_rfl) (by kernel_rfl) (by kernel_rfl) (fun _ _ _ h => h) (Or.inl ⟨by rfl, ?_⟩) hHeld ?_
                                rotate_left
                                · intro w hSw; (try dsimp only at hSw); go_simp; (try with_reducible rfl)
                                try simp only [Act.put, List.setIfInBounds_toArray, List.set_cons_zero, List.set_cons_succ]
                                refine wpAnyK_takeL (i := 14) (v := ?_) rfl (by kernel_rfl) (by kernel_rfl) (by kernel_rfl) (by kernel_rfl) (fun _ _ _ h => h) (Or.inl ⟨by rfl, ?_⟩) hHeld ?_
                                rotate_left
                                · intro w hSw; (try dsimp only at hSw); go_simp; (try with_reducible rfl)
                                try simp only [Act.put, List.setIfInBounds_toArray, List.set_cons_zero, List.set_cons_succ]
                                refine wpAnyK_takeL (i := 15) (v := ?_) rfl (by kernel_rfl) (by kernel_rfl) (by kernel_rfl) (by kernel_rfl) (fun _ _ _ h => h) (Or.inl ⟨by rfl, ?_⟩) hHeld ?_
                                rotate_left
                                · intro w hSw; (try dsimp only at hSw); go_simp; (try with_reducible rfl)
                                try simp only [Act.put, List.setIfInBounds_toArray, List.set_cons_zero, List.set_cons_succ]
                                refine wpAnyK_takeL (i := 16) (v := ?_) rfl (by kernel_rfl) (by kernel_rfl) (by kernel_rfl) (by kernel_rfl) (fun _ _ _ h => h) (Or.inl ⟨by rfl, ?_⟩) hHeld ?_
                                rotate_left
                                · intro w hSw; (try dsimp only at hSw); go_simp; (try with_reducible rfl)
                                try simp only [Act.put, List.setIfInBounds_toArray, List.set_cons_zero, List.set_cons_succ]
                                clear hHeld
                                refine wpAnyK_ready (rs := [17]) (by kernel_rfl) (by simp) ?_
                                refine AllReadyK.consL (i := 17) rfl (fun K hK => ?_) ?_
                                · go_simp
                                  refine hK.out _ _ (fun h => absurd h (by decide)) (fun hHeld2 => ?_)
                                  clear hK K hHeld2
                                  try clear hHeld
                                  try simp only [Act.put, List.setIfInBounds_toArray, List.set_cons_zero, List.set_cons_succ]
                                  refine wpAnyK_ready (rs := [18]) (by kernel_rfl) (by simp) ?_
                                  refine AllReadyK.consL (i := 18) rfl (fun K hK => ?_) ?_
                                  · refine step_setK (v := .int .i64 (ej1 + zj)) rfl rfl HBK.out rfl rfl (by omega) (by kernel_rfl) rfl (by simp [Value.oneCell']) ?_
                                    intro w18 hw18 hb18 ho18
                                    have hown := owns_put HERR.out HBK.out hb18
                                    have li : LInv w1.heap.size n ls (.slice (some ⟨b7, 0, none⟩) (n + 1) q7) (.slice (some ⟨b8, 0, none⟩) n q8) (.slice (some ⟨b9, 0, none⟩) n q9) (.slice (some ⟨b10, 0, none⟩) n q10) σk w10 (upd (upd (fA esN es j) j ej1) j (ej1 + zj)) (fA msN ms (j + 1)) w18 := LInv.err LI3.out rfl hlt3 ho18 hown
                                    rw [upd_upd] at li
                                    have eN : ej1 + zj = esN j := by
                                      rw [ESN.out, HEJ1.out, HMVV.out, HEJ.out, HZJ.out, HYJ.out, ← HNZ.out]
                                      dsimp only
                                      rw [← HLV.out, ← HUJ.out, HDN.out]
                                    rw [eN, fA_upd] at li
                                    have LI5 := Lib.hid li
                                    clear li
                                    clear hw18 hb18 ho18 hown HBK HERR LI3
                                    refine hK.out _ _ (fun h => absurd h (by decide)) (fun hHeld2 => ?_)
                                    clear hK K hHeld2
                                    try clear hHeld
                                    try simp only [Act.put, List.setIfInBounds_toArray, List.set_cons_zero, List.set_cons_succ]
                                    refine wpAnyK_done (by kernel_rfl) ?_ _
                                    clear e1 e2 e3 e4 e7
                                    go_wp2
                                    go_roundw
                                    case rel => exact ⟨j + 1, by omega, by go_num, LI5.out⟩
                                    case measure => simp [intOf]; omega
                                  · exact AllReadyK.nil
                                · exact AllReadyK.nil
                      · obtain rfl : n = j := by omega
                        as_aux_lemma =>
                          obtain ⟨mv', σ', kj, hold, hon⟩ := HLJ.out
                          have hki := KI.out.next (key := key) (nb := nbf) (z := fun i => (gD ns (5 + i) * (ls.getD i default).noise).tdiv 1000) (seen := seen) (es' := fA esN es n) (ms' := fA msN ms n) HLL.out HLK.out ⟨hkey1, hkey2⟩ HNB.out R5.out (fun i hi => by
                            have h1 := (HLK.out.at HLL.out hi).1
                            unfold Loop.Ok at h1
                            exact tdiv_bd _ _ h1.2.1.1 (HB17.out (5 + i))) (fun i hi => by rw [fA_lt _ _ hi, ESN.out]) (fun i hi => by rw [fA_lt _ _ hi, MSN.out])
                          have hds := D10.out.only hon (fun b hb => SR8.out b hb)
                          have hsr : ∀ b, σ' b ≠ 0 → ρ' b = 0 := fun b hb => by
                            rcases Nat.lt_or_ge b w10.heap.size with h | h
                            · exact SR8.out b (fun h0 => hb ((hold b h).trans h0))
                            · exact Decidable.byContradiction fun h0 => by have := D10.out.hlt b h0; omega
                          have hxe := X10.out.then_only hon (fun b hb => KS.out.hlo b hb)
                          have NKI := Lib.hid hki
                          have NDS := Lib.hid hds
                          have NSR := Lib.hid hsr
                          have NX := Lib.hid hxe
                          have NKJ := Lib.hid kj
                          clear hki hds hsr hxe kj
                          clear hold hon
                          go_wp2
                          go_roundw
                          case rel => exact ⟨k + 1, by omega, by go_num, _, _, _, _, _, _, _, NKI.out, NDS.out, NKJ.out, NSR.out, RB8.out, NX.out⟩
                          case measure => simp [intOf]; omega
          · obtain ⟨d, m, ρ, es, ms, mv, σk, hki, hds, hks, h1, h2, hx⟩ := HM.out
            have X4 := Lib.hid hx
            clear hx
            clear HM hds hks hki h1 h2
            go_wp2_with (go_at_call 9; refine (awake_true _).mono ?_; rintro x w4 ⟨rfl, hx4⟩; have HX5 := Lib.hid (X4.out.tr hx4); clear hx4)
            go_ret
            exact ⟨rfl, HX5.out⟩
end Go.Proofs.Ytafnadaahnkcmaa
