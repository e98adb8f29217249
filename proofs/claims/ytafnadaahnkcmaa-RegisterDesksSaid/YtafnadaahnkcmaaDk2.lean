/- RegisterDesks: loops copied, all copies of a desk, its waste. -/
import Derived.Test.YtafnadaahnkcmaaDk1
namespace Go.Proofs.Ytafnadaahnkcmaa
open Go.RowKit
set_option linter.unusedVariables false
set_option linter.unusedSimpArgs false

theorem tLoops2 : SliceT Try.prog 52 36 (.agg #[.int .i64 0, .int .i64 0, .int .i64 0, .int .i64 0]) 4 32 := ⟨by kernel_rfl, by kernel_rfl, rfl, by decide, by decide⟩
theorem lpL_succ (ls : List Loop) (k : Nat) : lpL ls (k + 1) = lpL ls k ++ lpC (ls.getD k default) := by
  unfold lpL; rw [List.range_succ, List.flatMap_append]; simp

set_option maxRecDepth 100000 in
set_option maxHeartbeats 2000000 in
theorem loops_any (l : List Loop) (v : Value) (w : World) (hl : LoopsIn w v l) (hn : l.length ≤ 1000) :
    Calls Try.prog 24 #[v] w fun e w' => ∃ v', e = .returned v' ∧ w'.ownsRow w.heap.size 36 4 v' l.length (lpL l l.length) ∧ Ext w w' := by
  obtain ⟨_, al, cl, rfl, hlc⟩ := hl
  have HC := Lib.hid hlc
  clear hlc
  go_enter Try.func24, Try.ntmps24
  go_wp2
  go_loopw [3, 4] (fun v t wr => ∃ k : Nat, k ≤ l.length ∧ t = .int .i64 k ∧ Hid (wr.ownsRow w.heap.size 36 4 v k (lpL l k)) ∧ Hid (Ext w wr)) (fun _ t _ => l.length - (intOf t).toNat)
  case atStart => exact ⟨0, Nat.zero_le _, rfl, World.ownsRow_nil _ _ _ _, Below.refl _ _⟩
  case round =>
    obtain ⟨k, hk, rfl, HV, HX⟩ := hrel
    by_cases hlt : k < l.length
    · obtain ⟨b, o, rfl, hc⟩ := HC.out (by omega)
      obtain ⟨a3, c3, rfl⟩ := row_form HV.out
      obtain ⟨x, hx⟩ : ∃ x, x = l[k] := ⟨_, rfl⟩
      have hck := hc k hlt
      rw [← hx] at hck
      have hgx : l.getD k default = x := by rw [hx]; simp [List.getD, hlt]
      have k0 : wr.cell? ⟨b, o + k * 4, none⟩ = some (.int .i64 x.dead) := HX.out.cellSome (hck 0 (by omega))
      have k1 : wr.cell? ⟨b, o + k * 4 + 1, none⟩ = some (.int .i64 x.noise) := HX.out.cellSome (hck 1 (by omega))
      have k2 : wr.cell? ⟨b, o + k * 4 + 2, none⟩ = some (.int .i64 x.blur) := HX.out.cellSome (hck 2 (by omega))
      have k3 : wr.cell? ⟨b, o + k * 4 + 3, none⟩ = some (.int .i64 x.step) := HX.out.cellSome (hck 3 (by omega))
      have HGX := Lib.hid hgx
      clear hgx
      clear hc hck hx
      go_wp2_with (
        at_builtin
        refine wpList_app tLoops2 rfl rfl (v := .slice a3 k c3) rfl (owns_ext HV.out (ext_lit _ _ _)) rfl (Src.lit _ [.int .i64 x.dead, .int .i64 x.noise, .int .i64 x.blur, .int .i64 x.step] 1 4 rfl 36 1) (by simp [Value.oneCell']) (by omega) (Nat.le_trans HX.out.size (by simp)) ?_
        rintro v' w10 t1 t2 t3
        have xt := (HX.out.tr (ext_lit _ _ _)).then_only (only_grown t2) (fun b hb => (HV.out.lt b hb).1)
        have T1 := Lib.hid t1
        have XT := Lib.hid xt
        clear t1 xt
        clear t2 t3)
      go_roundw
      case rel => exact ⟨k + 1, by omega, by go_num, by rw [lpL_succ, HGX.out]; exact T1.out, XT.out⟩
      case measure => simp [intOf]; omega
    · obtain rfl : k = l.length := by omega
      go_wp2
      go_ret
      exact ⟨_, rfl, HV.out, HX.out⟩
end Go.Proofs.Ytafnadaahnkcmaa
