/- A situation as a key. -/
import Derived.Test.YtojobdffnnibaaaPSit
namespace Go.Proofs.Ytojobdffnnibaaa
open Go.RowKit
set_option linter.unusedVariables false
theorem key15 (b0 b1 b2 b3 b4 b5 b6 b7 b8 b9 b10 b11 b12 b13 b14 : Bool) : (keyOf Try.prog 124 (.agg #[.bool b0, .bool b1, .bool b2, .bool b3, .bool b4, .bool b5, .bool b6, .bool b7, .bool b8, .bool b9, .bool b10, .bool b11, .bool b12, .bool b13, .bool b14])).isSome = true := by kernel_rfl
theorem keySit (s : StD) : ∃ lit, keyOf Try.prog 124 (sitV s) = some lit := by
  obtain ⟨d0, d1, d2, d3, d4, d5, d6, d7, d8, d9, d10, d11, d12, d13, d14, hd⟩ := list15 (sitD s) (sitD_len s)
  unfold sitV
  rw [hd]
  exact Option.isSome_iff_exists.1 (key15 d0 d1 d2 d3 d4 d5 d6 d7 d8 d9 d10 d11 d12 d13 d14)
theorem sitV_inj {s t : StD} (h : sitV s = sitV t) : sitD s = sitD t := by
  unfold sitV at h
  have h2 : ((sitD s).map Value.bool) = ((sitD t).map Value.bool) := by
    have := congrArg (fun v => match v with | .agg cs => cs.toList | _ => []) h
    simpa using this
  exact (List.map_inj_right (fun a b e => by cases e; rfl)).1 h2
/-- Is a situation among those of the steps? -/
def knownD (l : List StepD) (s : StD) : Bool := l.any fun t => sitD t.at_ == sitD s
theorem known_iff (l : List StepD) (s : StD) : knownD l s = true ↔ ∃ t ∈ l, sitV t.at_ = sitV s := by
  unfold knownD
  rw [List.any_eq_true]
  constructor
  · rintro ⟨t, ht, h⟩
    have h : sitD t.at_ = sitD s := by simpa using h
    exact ⟨t, ht, by unfold sitV; rw [h]⟩
  · rintro ⟨t, ht, h⟩
    exact ⟨t, ht, by simpa using sitV_inj h⟩
/-- The map of what was seen. -/
def seenL (l : List StepD) : List (Value × Value) := l.map fun t => (sitV t.at_, .bool true)
theorem uBool : Try.prog.underlying 4 = some .bool := by kernel_rfl
theorem zBool (w : World) : (zeroValue 4).run Try.prog w = .ok (.bool false) w := by kernel_rfl
theorem seen_look {w : World} {b : Nat} {l : List StepD} (h : MapR Try.prog 124 w b (seenL l)) (s : StD) :
    (Instr.lookup 145 (.map (some b)) (sitV s) false).run Try.prog w = .ok (.bool (knownD l s)) w := by
  obtain ⟨lit, hlit⟩ := keySit s
  cases hk : knownD l s
  · have := h.miss kSit uSeen hlit (zBool w) (fun y hy e => by
      obtain ⟨t, ht, rfl⟩ := List.mem_map.1 hy
      have := (known_iff l s).2 ⟨t, ht, e⟩
      rw [hk] at this; cases this) false
    exact this
  · obtain ⟨t, ht, e⟩ := (known_iff l s).1 hk
    have := h.look kSit uSeen hlit (v := .bool true) (fun v' hv => by
      obtain ⟨t', _, e'⟩ := List.mem_map.1 hv
      exact (congrArg Prod.snd e').symm) ⟨.bool true, List.mem_map.2 ⟨t, ht, by rw [e]⟩⟩ false
    exact this
end Go.Proofs.Ytojobdffnnibaaa
