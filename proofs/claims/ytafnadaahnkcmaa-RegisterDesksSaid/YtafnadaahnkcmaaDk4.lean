/- RegisterDesks: all copies of a desk, told by roles. -/
import Derived.Test.YtafnadaahnkcmaaDk3
namespace Go.Proofs.Ytafnadaahnkcmaa
open Go.RowKit
set_option linter.unusedVariables false
set_option linter.unusedSimpArgs false

/-- Copies of a desk's copies. Roles: 1 their row, 2 + 2 i the errors, 3 + 2 i the moves. -/
structure CpSt (B : Nat) (w : World) (cs : List CopyD) (k : Nat) (v : Value) (es ms : Nat → Value) (τ : Nat → Nat) : Prop where
  ble : B ≤ w.heap.size
  hlo : ∀ b, τ b ≠ 0 → B ≤ b
  hlt : ∀ b, τ b ≠ 0 → b < w.heap.size
  row : Row τ 1 w 59 4 v k (cpL cs es ms k)
  es : ∀ i, i < k → Row τ (2 + 2 * i) w 3 1 (es i) (cs.getD i default).errs.length ((cs.getD i default).errs.map (.int .i64))
  ms : ∀ i, i < k → Row τ (3 + 2 * i) w 3 1 (ms i) (cs.getD i default).moves.length ((cs.getD i default).moves.map (.int .i64))

theorem cpL_upd (cs : List CopyD) (es ms : Nat → Value) (k : Nat) (ve vm : Value) : cpL cs (upd es k ve) (upd ms k vm) (k + 1) = cpL cs es ms k ++ cpC (cs.getD k default) ve vm := by
  unfold cpL
  rw [List.range_succ, List.flatMap_append]
  congr 1
  · apply flat_congr
    intro i hi
    have hi' : i < k := List.mem_range.1 hi
    rw [upd_other _ _ _ _ (by omega), upd_other _ _ _ _ (by omega)]
  · simp [upd_same]

theorem CpSt.start (w : World) (cs : List CopyD) : CpSt w.heap.size w cs 0 (.slice none 0 0) (fun _ => .slice none 0 0) (fun _ => .slice none 0 0) (fun _ => 0) :=
  ⟨Nat.le_refl _, fun b hb => (hb rfl).elim, fun b hb => (hb rfl).elim, ⟨World.ownsRow_nil _ _ _ _, fun b hb => by cases hb⟩, fun i hi => by omega, fun i hi => by omega⟩

theorem CpSt.add {B C C3 : Nat} {w w2 w3 w4 : World} {cs : List CopyD} {k : Nat} {v v' ve vm : Value} {es ms : Nat → Value} {τ : Nat → Nat} (h : CpSt B w cs k v es ms τ) (hx : Ext w w2)
    (he : w2.ownsRow C 3 1 ve (cs.getD k default).errs.length ((cs.getD k default).errs.map (.int .i64))) (hm : w2.ownsRow C 3 1 vm (cs.getD k default).moves.length ((cs.getD k default).moves.map (.int .i64))) (hC : w.heap.size ≤ C)
    (hap : ve.ownBlock = vm.ownBlock → ve.ownBlock = none) (hx3 : Ext w2 w3) (ho : w4.ownsRow C3 59 4 v' (k + 1) (cpL cs es ms k ++ cpC (cs.getD k default) ve vm)) (hg : w3.grownBy w4 v.ownBlock) (hf : FreshOr w3 v v') :
    ∃ τ', CpSt B w4 cs (k + 1) v' (upd es k ve) (upd ms k vm) τ' ∧ Only (fun b => τ b ≠ 0) w w4 := by
  have k4 : Only (fun b => v.ownBlock = some b) w w4 := ((Only.of_ext hx).tr (Only.of_ext hx3)).tr (only_grown hg)
  have k24 : Only (fun b => v.ownBlock = some b) w2 w4 := (Only.of_ext hx3).tr (only_grown hg)
  have s2 := hx.size
  have s3 := hx3.size
  have s4 := k24.size
  have hv : ∀ b, v.ownBlock = some b → b < w.heap.size := fun b hb => (h.row.1.lt b hb).2
  have hve : ∀ b, ve.ownBlock = some b → w.heap.size ≤ b ∧ b < w2.heap.size := fun b hb => ⟨Nat.le_trans hC (he.lt b hb).1, (he.lt b hb).2⟩
  have hvm : ∀ b, vm.ownBlock = some b → w.heap.size ≤ b ∧ b < w2.heap.size := fun b hb => ⟨Nat.le_trans hC (hm.lt b hb).1, (hm.lt b hb).2⟩
  have hv' : ∀ b, v'.ownBlock = some b → v.ownBlock = some b ∨ w3.heap.size ≤ b := fun b hb => by
    rcases hf with hf | ⟨c, hc, hle⟩
    · exact .inl (hf ▸ hb)
    · rw [hc] at hb; cases hb; exact .inr hle
  obtain ⟨τ', hτ⟩ : ∃ τ' : Nat → Nat, τ' = fun b => if ve.ownBlock = some b then 2 + 2 * k else if vm.ownBlock = some b then 3 + 2 * k else if v'.ownBlock = some b then 1 else τ b := ⟨_, rfl⟩
  have hold : ∀ b, b < w.heap.size → τ' b = τ b := fun b hb => by
    rw [hτ]; dsimp only
    rw [if_neg (fun e => by have := (hve b e).1; omega), if_neg (fun e => by have := (hvm b e).1; omega)]
    split
    · rename_i hvb
      rcases hv' b hvb with h1 | h1
      · exact (h.row.2 b h1).symm
      · omega
    · rfl
  have hr1 : ∀ b, v'.ownBlock = some b → τ' b = 1 := fun b hb => by
    rw [hτ]; dsimp only
    have hn : ¬ (w.heap.size ≤ b ∧ b < w2.heap.size) := fun hh => by
      rcases hv' b hb with h1 | h1
      · have := hv b h1; omega
      · omega
    rw [if_neg (fun e => hn (hve b e)), if_neg (fun e => hn (hvm b e)), if_pos hb]
  have hr2 : ∀ b, ve.ownBlock = some b → τ' b = 2 + 2 * k := fun b hb => by rw [hτ]; dsimp only; rw [if_pos hb]
  have hr3 : ∀ b, vm.ownBlock = some b → τ' b = 3 + 2 * k := fun b hb => by
    rw [hτ]; dsimp only
    rw [if_neg (fun e => by have := hap (e.trans hb.symm); rw [this] at e; cases e), if_pos hb]
  have keep : ∀ {r : Nat} {e : TypeId} {size n : Nat} {u : Value} {xs : List Value}, Row τ r w e size u n xs → r ≠ 1 → Row τ' r w4 e size u n xs := fun hr h1 =>
    ⟨owns_only hr.1 k4 fun b hb hS => by have e1 := hr.2 b hb; have e2 := h.row.2 b hS; omega, fun b hb => (hold b (hr.1.lt b hb).2).trans (hr.2 b hb)⟩
  have hbl : ∀ b, τ' b ≠ 0 → B ≤ b ∧ b < w4.heap.size := fun b hb => by
    have hB := h.ble
    rw [hτ] at hb; dsimp only at hb
    split at hb
    · rename_i e; have := hve b e; omega
    · split at hb
      · rename_i e; have := hvm b e; omega
      · split at hb
        · rename_i e
          have e4 := (ho.lt b e).2
          rcases hv' b e with e1 | e1
          · have := h.hlo b (by rw [h.row.2 b e1]; omega); omega
          · omega
        · have e1 := h.hlo b hb; have e2 := h.hlt b hb; omega
  refine ⟨τ', ⟨Nat.le_trans h.ble k4.size, fun b hb => (hbl b hb).1, fun b hb => (hbl b hb).2, ⟨by rw [cpL_upd]; exact owns_weak ho (Nat.zero_le _), hr1⟩, fun i hi => ?_, fun i hi => ?_⟩, k4.weak fun b _ hb h0 => by have := h.row.2 b hb; omega⟩
  · by_cases e : i = k
    · subst e
      rw [upd_same]
      exact ⟨owns_weak (owns_only he k24 fun b hb hS => by have := hv b hS; have := (hve b hb).1; omega) (Nat.zero_le _), hr2⟩
    · rw [upd_other _ _ _ _ e]; exact keep (h.es i (by omega)) (by omega)
  · by_cases e : i = k
    · subst e
      rw [upd_same]
      exact ⟨owns_weak (owns_only hm k24 fun b hb hS => by have := hv b hS; have := (hvm b hb).1; omega) (Nat.zero_le _), hr3⟩
    · rw [upd_other _ _ _ _ e]; exact keep (h.ms i (by omega)) (by omega)
end Go.Proofs.Ytafnadaahnkcmaa
