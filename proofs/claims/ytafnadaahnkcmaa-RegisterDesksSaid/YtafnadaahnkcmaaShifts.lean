/- shifts: the iterator's contract. -/
import Derived.Test.YtafnadaahnkcmaaRight
import Derived.RangeFuncNested
import Derived.RangeFuncBound
import Derived.RangeFuncCalls
import Derived.RangeFuncLeaves
import Derived.Shelf.Abstract
import Derived.Shelf.RegionOpen
import Derived.OwnWalkIn
import Derived.TacticsInMore
import Derived.LoopNIn
import Derived.LoopIn
namespace Go.Proofs.Ytafnadaahnkcmaa
open Go.RowKit Go.Shelf
set_option linter.unusedVariables false
attribute [local go_sem] Oper.semAt_some

/-- The shifts of k rounds: 0, 1, -1, 2, -2 .. -/
def shs (k : Nat) : List Int := (List.range k).flatMap fun (j : Nat) => if j = 0 then [(0 : Int)] else [(j : Int), -(j : Int)]
theorem shs_zero : shs 1 = [0] := rfl
theorem shs_nil : shs 0 = [] := rfl
theorem shs_succ (k : Nat) (h : 0 < k) : shs (k + 1) = shs k ++ [(k : Int)] ++ [-(k : Int)] := by
  unfold shs; rw [List.range_succ, List.flatMap_append]
  have : ¬ k = 0 := by omega
  simp [this]
theorem shs_len (k : Nat) : (shs k).length ≤ 2 * k := by
  induction k with
  | zero => simp [shs]
  | succ k ih =>
    by_cases h : k = 0
    · subst h; rw [shs_zero]; simp
    · rw [shs_succ k (by omega)]; simp; omega

/-- A shift. -/
abbrev Sh := { x : Int // -2000 ≤ x ∧ x ≤ 2000 }
def mkSh (x : Int) : Sh := if h : -2000 ≤ x ∧ x ≤ 2000 then ⟨x, h⟩ else ⟨0, by omega⟩
theorem mkSh_val (x : Int) (h : -2000 ≤ x ∧ x ≤ 2000) : (mkSh x).1 = x := by simp [mkSh, h]
def shsA (k : Nat) : List Sh := (shs k).map mkSh
theorem shsA_nil : shsA 0 = [] := rfl
theorem shsA_zero : shsA 1 = [] ++ [mkSh 0] := rfl
theorem shsA_succ (k : Nat) (h : 0 < k) : shsA (k + 1) = shsA k ++ [mkSh (k : Int)] ++ [mkSh (-(k : Int))] := by
  unfold shsA; rw [shs_succ k h]; simp
theorem shsA_len (k : Nat) : (shsA k).length ≤ 2 * k := by unfold shsA; rw [List.length_map]; exact shs_len k
theorem shs_bd (k : Nat) (x : Int) (h : x ∈ shs k) : -(k:Int) < x ∧ x < (k:Int) := by
  unfold shs at h
  obtain ⟨j, hj, hx⟩ := List.mem_flatMap.1 h
  have hj' := List.mem_range.1 hj
  by_cases h0 : j = 0
  · rw [if_pos h0] at hx; simp at hx; omega
  · rw [if_neg h0] at hx; simp at hx; omega
theorem shsA_val : (shsA 2001).map (·.1) = shs 2001 := by
  unfold shsA
  rw [List.map_map]
  refine (List.map_congr_left (g := id) fun x hx => ?_).trans (List.map_id _)
  have := shs_bd 2001 x hx
  exact mkSh_val x (by omega)

set_option maxRecDepth 100000 in
set_option maxHeartbeats 2000000 in
theorem shifts_in (n l : Nat) (hn : 1 ≤ n) (J Jx : List Sh → World → Prop)
    (hY : ∀ pre x W, J pre W → pre.length < 5000 → YieldAt Fence.wide (n - 1) Try.prog l #[.int .i64 x.1] W fun e W' =>
      (e = .returned (.bool true) ∧ J (pre ++ [x]) W' ∧ True) ∨ (e = .returned (.bool false) ∧ Jx (pre ++ [x]) W'))
    (W : World) (h0 : J [] W) :
    CallsIn Fence.wide n Try.prog 55 #[.func (.yield l) #[] #[]] W fun e W' => (∃ v, e = .returned v) ∧
      ((∃ ys, ys = shsA 2001 ∧ J ys W') ∨ (∃ pre, True ∧ Jx pre W')) := by
  refine callsIn_of_wp Try.func55 rfl trivial ?_ rfl
  simp only [Try.ntmps55, List.size_toArray, List.length_cons, List.length_nil, Nat.reduceAdd, Nat.reduceSub, Array.replicate_succ, Array.replicate_zero, List.push_toArray, List.append_toArray, List.nil_append, List.cons_append]
  gi_wp2
  gi_loopw [3] (fun i wr => ∃ k : Nat, k ≤ 2001 ∧ i = .int .i64 k ∧ J (shsA k) wr) (fun i _ => 2001 - (intOf i).toNat)
  case atStart => exact ⟨0, Nat.zero_le _, rfl, h0⟩
  case round =>
    obtain ⟨k, hk, rfl, hJs⟩ := hrel
    by_cases hlt : k < 2001
    · have hl := shsA_len k
      by_cases hk0 : 0 < k
      · have hv := mkSh_val (k:Int) (by omega)
        obtain ⟨fn, tmps, assign, body, hy, hR⟩ := hY _ (mkSh k) wr hJs (by omega)
        rw [hv] at hy
        clear hv
        gi_wp2
        refine hR.mono ?_
        rintro e W3 (⟨rfl, hJ3, _⟩ | ⟨rfl, hJx3⟩)
        · have hv := mkSh_val (-(k:Int)) (by omega)
          obtain ⟨fn2, tmps2, assign2, body2, hy2, hR2⟩ := hY _ (mkSh (-(k : Int))) W3 hJ3 (by simp; omega)
          rw [hv] at hy2
          clear hv
          gi_wp2
          refine hR2.mono ?_
          rintro e W4 (⟨rfl, hJ4, _⟩ | ⟨rfl, hJx4⟩)
          · gi_wp2
            go_roundw
            case rel => exact ⟨k + 1, by omega, by go_num, by rw [shsA_succ k hk0]; exact hJ4⟩
            case measure => simp [intOf]; omega
          · gi_wp2
            refine bodyPost_ret (results_none rfl _ _ _) rfl ?_
            exact ⟨⟨_, rfl⟩, .inr ⟨_, trivial, hJx4⟩⟩
        · gi_wp2
          all_goals (try (exfalso; have hz := ‹some undef = some (Value.bool _)›; cases hz; done))
          refine ⟨fun _ h => (by cases h), ?_⟩
          gi_wp2
          all_goals (try (exfalso; have hz := ‹some undef = some (Value.bool _)›; cases hz; done))
          refine bodyPost_ret (results_none rfl _ _ _) rfl ?_
          exact ⟨⟨_, rfl⟩, .inr ⟨_, trivial, hJx3⟩⟩
      · obtain rfl : k = 0 := by omega
        have hv := mkSh_val (0:Int) (by omega)
        obtain ⟨fn, tmps, assign, body, hy, hR⟩ := hY _ (mkSh 0) wr hJs (by omega)
        rw [hv] at hy
        clear hv
        gi_wp2
        refine hR.mono ?_
        rintro e W3 (⟨rfl, hJ3, _⟩ | ⟨rfl, hJx3⟩)
        · gi_wp2
          refine ⟨fun _ h => (by cases h), ?_⟩
          gi_wp2
          go_roundw
          case rel => exact ⟨0 + 1, by omega, by go_num, hJ3⟩
          case measure => simp [intOf]
        · gi_wp2
          all_goals (try (exfalso; have hz := ‹some undef = some (Value.bool _)›; cases hz; done))
          refine ⟨fun _ h => (by cases h), ?_⟩
          gi_wp2
          all_goals (try (exfalso; have hz := ‹some undef = some (Value.bool _)›; cases hz; done))
          refine bodyPost_ret (results_none rfl _ _ _) rfl ?_
          exact ⟨⟨_, rfl⟩, .inr ⟨_, trivial, hJx3⟩⟩
    · obtain rfl : k = 2001 := by omega
      gi_wp2
      go_end0
      exact ⟨⟨_, rfl⟩, .inl ⟨_, rfl, hJs⟩⟩
theorem shifts_stops (n : Nat) (hn : 1 ≤ n) (w : World) :
    SeqStopsK Fence.wide n Try.prog 55 #[] (fun x : Sh => #[.int .i64 x.1]) (fun _ _ => True) (· = shsA 2001) (fun _ => True) 5000 w :=
  fun l J Jx W _ _ _ hY h0 => shifts_in n l hn J Jx hY W h0
end Go.Proofs.Ytafnadaahnkcmaa
