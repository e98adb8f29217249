/- RegisterDesks: the reference's copies, as they are read. -/
import Derived.Test.YtafnadaahnkcmaaDk7
import Derived.Test.YtafnadaahnkcmaaDk8
namespace Go.Proofs.Ytafnadaahnkcmaa
open Go.RowKit
set_option linter.unusedVariables false

theorem Ints.only {w w' : World} {v : Value} {xs : List Int} {S : Nat → Prop} (h : Ints w v xs) (k : Only S w w') (hs : ∀ b, v.ownBlock = some b → ¬ S b) : Ints w' v xs := by
  obtain ⟨hm, a, c, hv, hn, hc⟩ := h
  refine ⟨hm, a, c, hv, hn, fun h0 => ?_⟩
  obtain ⟨b, o, e, hh⟩ := hc h0
  exact ⟨b, o, e, fun i u hu => k.cell (hh i u hu) (hs b (by rw [hv, e]; rfl))⟩

/-- A slice of the reference's copies, in blocks of which R says what they are. -/
def CpsIn (R : Nat → Prop) (w : World) (v : Value) (cs : List CopyD) : Prop :=
  ∃ a c, v = .slice a cs.length c ∧ (a = none → c = 0) ∧ (0 < cs.length → ∃ b o, a = some ⟨b, o, none⟩ ∧ R b ∧ ∃ es ms : Nat → Value, (∀ i j u, i < cs.length → j < 4 → (cpC (cs.getD i default) (es i) (ms i))[j]? = some u → w.cell? ⟨b, o + i * 4 + j, none⟩ = some u) ∧
    ∀ i, i < cs.length → (Ints w (es i) (cs.getD i default).errs ∧ Ints w (ms i) (cs.getD i default).moves) ∧ ∀ b, (es i).ownBlock = some b ∨ (ms i).ownBlock = some b → R b)
theorem CpsIn.nil (R : Nat → Prop) (w : World) : CpsIn R w (.slice none 0 0) [] := ⟨none, 0, rfl, fun _ => rfl, fun h => by simp at h⟩
theorem CpsIn.only {R S : Nat → Prop} {w w' : World} {v : Value} {cs : List CopyD} (h : CpsIn R w v cs) (k : Only S w w') (hs : ∀ b, R b → ¬ S b) : CpsIn R w' v cs := by
  obtain ⟨a, c, h1, h0, h2⟩ := h
  refine ⟨a, c, h1, h0, fun h0 => ?_⟩
  obtain ⟨b, o, h3, hR, es, ms, h4, h5⟩ := h2 h0
  exact ⟨b, o, h3, hR, es, ms, fun i j u hi hj hu => k.cell (h4 i j u hi hj hu) (hs b hR), fun i hi => ⟨⟨(h5 i hi).1.1.only k fun b hb => hs b ((h5 i hi).2 b (.inl hb)), (h5 i hi).1.2.only k fun b hb => hs b ((h5 i hi).2 b (.inr hb))⟩, (h5 i hi).2⟩⟩
theorem CpsIn.ext {R : Nat → Prop} {w w' : World} {v : Value} {cs : List CopyD} (h : CpsIn R w v cs) (k : Ext w w') : CpsIn R w' v cs :=
  h.only (S := fun _ => False) (Only.of_ext k) fun _ _ h => h
theorem CpsIn.weak {R R' : Nat → Prop} {w : World} {v : Value} {cs : List CopyD} (h : CpsIn R w v cs) (k : ∀ b, R b → R' b) : CpsIn R' w v cs := by
  obtain ⟨a, c, h1, h0, h2⟩ := h
  refine ⟨a, c, h1, h0, fun h0 => ?_⟩
  obtain ⟨b, o, h3, hR, es, ms, h4, h5⟩ := h2 h0
  exact ⟨b, o, h3, k b hR, es, ms, h4, fun i hi => ⟨(h5 i hi).1, fun b hb => k b ((h5 i hi).2 b hb)⟩⟩
/-- Out of a row of one's own. -/
theorem CpsIn.of_owns {R : Nat → Prop} {w : World} {B : Nat} {v : Value} {cs : List CopyD} {es ms : Nat → Value} (h : w.ownsRow B 74 4 v cs.length (cpL cs es ms cs.length)) (hR : ∀ b, v.ownBlock = some b → R b)
    (hi : ∀ i, i < cs.length → (Ints w (es i) (cs.getD i default).errs ∧ Ints w (ms i) (cs.getD i default).moves) ∧ ∀ b, (es i).ownBlock = some b ∨ (ms i).ownBlock = some b → R b) : CpsIn R w v cs := by
  obtain ⟨a, c, rfl, hac⟩ : ∃ a c, v = .slice a cs.length c ∧ (a = none → c = 0) := by
    rcases h.2 with ⟨rfl, e⟩ | ⟨g, cap, cur, rfl, _⟩
    · exact ⟨none, 0, by rw [e], fun _ => rfl⟩
    · exact ⟨_, cap, rfl, fun h => by cases h⟩
  refine ⟨a, c, rfl, hac, fun h0 => ?_⟩
  obtain ⟨g, c', hv, hc⟩ := owns_pos h h0
  cases hv
  refine ⟨g, 0, rfl, hR g rfl, es, ms, fun i j u hi hj hu => ?_, hi⟩
  have h1 := cpL_get cs es ms cs.length i j hi hj
  rw [hu] at h1
  have := hc (i * 4 + j) u h1
  rwa [Nat.zero_add]
/-- To be appended. -/
theorem CpsIn.src {R : Nat → Prop} {w : World} {v : Value} {cs : List CopyD} (h : CpsIn R w v cs) : ∃ es ms : Nat → Value, Src 4 w v cs.length (cpL cs es ms cs.length) ∧ ∀ i, i < cs.length → (Ints w (es i) (cs.getD i default).errs ∧ Ints w (ms i) (cs.getD i default).moves) ∧ ∀ b, (es i).ownBlock = some b ∨ (ms i).ownBlock = some b → R b := by
  obtain ⟨a, c, h1, hac, h2⟩ := h
  have hlen : ∀ es ms, (cpL cs es ms cs.length).length = cs.length * 4 := fun es ms => by
    unfold cpL
    generalize cs.length = n
    induction n with
    | zero => rfl
    | succ n ih => rw [List.range_succ, List.flatMap_append, List.length_append, ih]; simp [cpC]; omega
  rcases Nat.eq_zero_or_pos cs.length with h0 | h0
  · refine ⟨fun _ => .slice none 0 0, fun _ => .slice none 0 0, ⟨hlen _ _, a, c, h1, fun h => ⟨h0, hac h⟩, fun ad _ j u hj => ?_⟩, fun i hi => by omega⟩
    have := hlen (fun _ => .slice none 0 0) (fun _ => .slice none 0 0)
    rw [List.eq_nil_of_length_eq_zero (by omega : (cpL cs (fun _ => .slice none 0 0) (fun _ => .slice none 0 0) cs.length).length = 0)] at hj
    cases hj
  · obtain ⟨b, o, rfl, _, es, ms, h4, h5⟩ := h2 h0
    refine ⟨es, ms, ⟨hlen es ms, some ⟨b, o, none⟩, c, h1, (fun h => by cases h), fun ad had p u hp => ?_⟩, h5⟩
    cases had
    have hpl : p < cs.length * 4 := by
      rw [← hlen es ms]; exact (List.getElem?_eq_some_iff.1 hp).1
    have hpd : p = p / 4 * 4 + p % 4 := by omega
    have hq := cpL_get cs es ms cs.length (p / 4) (p % 4) (by omega) (by omega)
    rw [← hpd, hp] at hq
    have h6 := h4 (p / 4) (p % 4) u (by omega) (by omega) hq.symm
    have e : (⟨b, o, none⟩ : Addr).add p = ⟨b, o + p / 4 * 4 + p % 4, none⟩ := by
      have : o + p / 4 * 4 + p % 4 = o + p := by omega
      rw [this]
      clear hpd hq h6 this hp
      unfold Addr.add; split <;> simp_all
    rw [e]; exact h6
end Go.Proofs.Ytafnadaahnkcmaa
