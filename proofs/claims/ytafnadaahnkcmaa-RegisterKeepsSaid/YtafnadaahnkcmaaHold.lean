/- loop, numbers. -/
import Derived.Test.YtafnadaahnkcmaaAwake
namespace Go.Proofs.Ytafnadaahnkcmaa
open Go.RowKit
set_option linter.unusedVariables false

theorem pick_ex (x n : Int) (w : World) (hx : I64 x) (hn : 1 ≤ n ∧ n ≤ 9223372036854775807) :
    Calls Try.prog 19 #[.int .i64 x, .int .i64 n] w fun e w' => ∃ p, e = .returned (.int .i64 p) ∧ 0 ≤ p ∧ p < n ∧ w' = w :=
  (pick_any x n w hx (by unfold I64; omega)).mono fun e w' ⟨h1, h2⟩ => ⟨_, h1, (pick_pos x n hn.1).1, (pick_pos x n hn.1).2, h2.symm⟩

set_option maxRecDepth 100000 in
set_option maxHeartbeats 2000000 in
theorem loop_ex (dead noise blur step : Int) (w : World) (h1 : I64 dead) (h2 : I64 noise) (h3 : I64 blur) (h4 : I64 step) :
    Calls Try.prog 14 #[.int .i64 dead, .int .i64 noise, .int .i64 blur, .int .i64 step] w fun e w' => (∃ l : Loop, l.Ok ∧ e = .returned l.val) ∧ Ext w w' := by
  have H1 := Lib.hid h1
  have H2 := Lib.hid h2
  have H3 := Lib.hid h3
  have H4 := Lib.hid h4
  clear h1 h2 h3 h4
  go_enter Try.func14, Try.ntmps14
  go_wp2_with (first
    | (have hgd := H1.out
       go_at_call 19
       refine (pick_ex _ _ _ H1.out (by omega)).mono ?_
       rintro e w' ⟨d, rfl, d1, d2, rfl⟩
       clear H1 hgd)
    | (have hgd := H2.out
       go_at_call 19
       refine (pick_ex _ _ _ H2.out (by omega)).mono ?_
       rintro e w' ⟨n, rfl, n1, n2, rfl⟩
       clear H2 hgd)
    | (have hgd := H3.out
       go_at_call 19
       refine (pick_ex _ _ _ H3.out (by omega)).mono ?_
       rintro e w' ⟨b, rfl, b1, b2, rfl⟩
       clear H3 hgd)
    | (go_at_call 19
       refine (pick_ex _ _ _ H4.out (by omega)).mono ?_
       rintro e w' ⟨s, rfl, s1, s2, rfl⟩))
  · rw [if_pos h] at s2
    refine bodyPost_ret (v := .agg #[.int .i64 d, .int .i64 n, .int .i64 b, .int .i64 (1 + s)]) (by simp [results, Try.results14, go_sem]) rfl ⟨⟨⟨d, n, b, 1 + s⟩, ?_, rfl⟩, (ext_lit _ _ _).tr (ext_lit _ _ _)⟩
    unfold Loop.Ok; dsimp only; omega
  · rw [if_neg (by omega)] at s2
    refine bodyPost_ret (v := .agg #[.int .i64 d, .int .i64 n, .int .i64 b, .int .i64 (n + 2 * b + s)]) (by simp [results, Try.results14, go_sem]) rfl ⟨⟨⟨d, n, b, n + 2 * b + s⟩, ?_, rfl⟩, (ext_lit _ _ _).tr (ext_lit _ _ _)⟩
    unfold Loop.Ok; dsimp only; omega

theorem wrap_I64 (x : Int) : I64 (IntKind.i64.wrap x) := by
  unfold I64; rw [IntKind.wrap_i64]; omega

theorem wrap64_I64 (x : Int) : I64 (wrap64 x) := by unfold I64 wrap64; omega

set_option maxRecDepth 100000 in
set_option maxHeartbeats 2000000 in
theorem numbers_ex (xs : List Int) (va : Value) (n most fr : Int) (w : World) (ha : Ints w va xs) (hxl : xs.length ≤ 100000) (hxb : ∀ x ∈ xs, I64 x) (hn : 0 ≤ n ∧ n ≤ 100000) (hm : 0 ≤ most ∧ most ≤ 1000) (hf : 0 ≤ fr ∧ fr ≤ 1000) :
    Calls Try.prog 18 #[va, .int .i64 n, .int .i64 most, .int .i64 fr] w fun e w' => ∃ v, ∃ ns : List Int, e = .returned v ∧ w'.ownsRow w.heap.size 3 1 v n.toNat (ns.map (.int .i64)) ∧ ns.length = n.toNat ∧ (∀ x ∈ ns, -most ≤ x ∧ x ≤ most) ∧ Ext w w' := by
  obtain ⟨a, c, rfl, Ha⟩ := ha.form
  have HXB := Lib.hid hxb
  clear ha hxb
  go_enter Try.func18, Try.ntmps18
  go_wp2
  go_loopw [9, 10] (fun v t wr => ∃ k : Nat, k ≤ n.toNat ∧ t = .int .i64 k ∧ ∃ ns : List Int, Hid (wr.ownsRow w.heap.size 3 1 v k (ns.map (.int .i64)) ∧ ns.length = k ∧ (∀ x ∈ ns, -most ≤ x ∧ x ≤ most)) ∧ Hid (Ext w wr)) (fun _ t _ => n.toNat - (intOf t).toNat)
  case atStart => exact ⟨0, Nat.zero_le _, rfl, [], ⟨World.ownsRow_nil _ _ _ _, rfl, fun x hx => by cases hx⟩, Below.refl _ _⟩
  case round =>
    obtain ⟨k, hk, rfl, ns, HN, HX⟩ := hrel
    by_cases hlt : k < n.toNat
    · have j1 : (0:Int) ≤ (k:Int) := by omega
      have j2 : (k:Int) < n := by omega
      by_cases hz : 0 < xs.length
      · obtain ⟨b1, o1, rfl, hc1⟩ := Ints.cells (xs := xs) (Ha.out.ext HX.out) hz
        have hz' : (0:Int) < (xs.length:Int) := by omega
        have i1 : 0 ≤ ((k:Int) * 3 + fr) % (xs.length:Int) ∧ ((k:Int) * 3 + fr) % (xs.length:Int) < (xs.length:Int) := ⟨Int.emod_nonneg _ (by omega), Int.emod_lt_of_pos _ hz'⟩
        have c1 := hc1 (((k:Int) * 3 + fr) % (xs.length:Int)).toNat (by omega)
        obtain ⟨y, hy⟩ : ∃ y, y = xs[(((k:Int) * 3 + fr) % (xs.length:Int)).toNat]'(by omega) := ⟨_, rfl⟩
        rw [← hy] at c1
        clear hc1 hy
        go_wp2_with (first
          | (go_at_call 19
             refine (pick_ex _ _ _ (by first | exact wrap_I64 _ | exact wrap64_I64 _) (by omega)).mono ?_
             rintro e w' ⟨p, rfl, p1, p2, rfl⟩)
          | (at_builtin
             refine wpList_app tInts rfl rfl rfl (HN.out.1.alloc _) rfl (Src.lit _ [.int .i64 (p - most)] 1 1 rfl 3 1) (by simp [Value.oneCell']) (by omega) (Nat.le_trans HX.out.size (by simp)) ?_
             rintro v' w10 a1 a2 a3
             have HA := Lib.hid a1
             have HB := Lib.hid ((HX.out.tr (ext_lit _ _ _)).grown a2 (HX.out.tr (ext_lit _ _ _)).size (fun k hk => (HN.out.1.lt k hk).1))
             clear a1 a2 a3))
        go_roundw
        case rel => exact ⟨k + 1, by omega, by go_num, ns ++ [p - most], ⟨by rw [List.map_append]; exact HA.out, by rw [List.length_append, HN.out.2.1]; rfl, fun x hx => (List.mem_append.1 hx).elim (HN.out.2.2 x) (fun h => by simp at h; omega)⟩, HB.out⟩
        case measure => simp [intOf]; omega
      · have hz' : (xs.length:Int) = 0 := by omega
        have hz2 : decide ((0:Int) < (xs.length:Int)) = false := decide_eq_false (by omega)
        go_wp2_with (
          at_builtin
          refine wpList_app tInts rfl rfl rfl (HN.out.1.alloc _) rfl (Src.lit _ [.int .i64 0] 1 1 rfl 3 1) (by simp [Value.oneCell']) (by omega) (Nat.le_trans HX.out.size (by simp)) ?_
          rintro v' w10 a1 a2 a3
          have HA := Lib.hid a1
          have HB := Lib.hid ((HX.out.tr (ext_lit _ _ _)).grown a2 (HX.out.tr (ext_lit _ _ _)).size (fun k hk => (HN.out.1.lt k hk).1))
          clear a1 a2 a3)
        go_roundw
        case rel => exact ⟨k + 1, by omega, by go_num, ns ++ [0], ⟨by rw [List.map_append]; exact HA.out, by rw [List.length_append, HN.out.2.1]; rfl, fun x hx => (List.mem_append.1 hx).elim (HN.out.2.2 x) (fun h => by simp at h; omega)⟩, HB.out⟩
        case measure => simp [intOf]; omega
    · obtain rfl : k = n.toNat := by omega
      go_wp2
      go_ret
      exact ⟨_, ns, rfl, HN.out.1, HN.out.2.1, HN.out.2.2, HX.out⟩
end Go.Proofs.Ytafnadaahnkcmaa
