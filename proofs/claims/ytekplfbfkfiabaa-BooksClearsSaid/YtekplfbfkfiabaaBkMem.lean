/- A ledger's memory behind a Post. -/
import Derived.Test.YtekplfbfkfiabaaBkLed
namespace Go.Proofs.Ytekplfbfkfiabaa
open Go.RowKit
set_option linter.unusedVariables false
set_option linter.unusedSimpArgs false

theorem balC_post (d : LedD) (i j : Nat) (xa xd : Int) (hi : i < 40) (hj : j < 40) (hij : i ≠ j) :
    ((balC d).set i (.int .i64 (balA (i:Int) d.ents - xa))).set j (.int .i64 (balA (j:Int) d.ents + xa)) = balC (postD d ⟨i, j, xa, xd⟩) := by
  apply List.ext_getElem
  · simp [balC_len]
  · intro q h1 h2
    rw [balC_len] at h2
    have e : (balC (postD d ⟨i, j, xa, xd⟩))[q]'(by rw [balC_len]; exact h2) = .int .i64 (balA (q:Int) d.ents + mv (q:Int) ⟨i, j, xa, xd⟩) := by
      simp only [balC, postD, List.getElem_map, List.getElem_range, balA_snoc]
    have e0 : (balC d)[q]'(by rw [balC_len]; exact h2) = .int .i64 (balA (q:Int) d.ents) := by
      simp only [balC, List.getElem_map, List.getElem_range]
    rw [e, List.getElem_set]
    split
    · rename_i hq; subst hq
      have : mv (j:Int) ⟨i, j, xa, xd⟩ = xa := by unfold mv; dsimp only; rw [if_pos rfl, if_neg (by omega)]; omega
      rw [this]
    · rename_i hq
      rw [List.getElem_set]
      split
      · rename_i hq2; subst hq2
        have : mv (i:Int) ⟨i, j, xa, xd⟩ = -xa := by unfold mv; dsimp only; rw [if_neg (by omega), if_pos rfl]; omega
        rw [this]; rfl
      · rename_i hq2
        have : mv (q:Int) ⟨i, j, xa, xd⟩ = 0 := by unfold mv; dsimp only; rw [if_neg (by omega), if_neg (by omega)]; rfl
        rw [this, e0, Int.add_zero]
theorem ledA_post (d : LedD) (m : LMem) (v' : Value) (i j : Nat) (xa xd : Int) (hi : i < 40) (hj : j < 40) (hij : i ≠ j) :
    (((ledA d m).setIfInBounds 2 v').setIfInBounds (3 + i) (.int .i64 (balA (i:Int) d.ents - xa))).setIfInBounds (3 + j) (.int .i64 (balA (j:Int) d.ents + xa)) = ledA (postD d ⟨i, j, xa, xd⟩) { m with ve := v' } := by
  have hb := balC_post d i j xa xd hi hj hij
  have ei : 3 + i = i + 1 + 1 + 1 := by omega
  have ej : 3 + j = j + 1 + 1 + 1 := by omega
  unfold ledA
  simp only [List.setIfInBounds_toArray]
  rw [ei, ej]
  simp only [List.set_cons_succ, List.set_cons_zero, show (2:Nat) = 0 + 1 + 1 from rfl]
  rw [List.set_append_left _ _ (by rw [balC_len]; exact hi), List.set_append_left _ _ (by rw [List.length_set, balC_len]; exact hj), hb]
  rfl

theorem ledA_get (d : LedD) (m : LMem) (i : Nat) (hi : i < 40) : (ledA d m)[3 + i]? = some (.int .i64 (balA (i:Int) d.ents)) := by
  have e : 3 + i = i + 1 + 1 + 1 := by omega
  rw [e]
  simp [ledA]
  rw [List.getElem?_append_left (by rw [balC_len]; exact hi)]
  simp [balC, hi]
theorem LSt.posted {w w1 w4 : World} {B lb : Nat} {d : LedD} {m : LMem} {v' : Value} {i j : Nat} {xa xd : Int} (h : LSt w B lb d m) (ok : LedOk d) (hB : B ≤ w.heap.size) (hi : i < 40) (hj : j < 40) (hij : i ≠ j)
    (hown : w1.ownsRow B 76 5 v' (d.ents.length + 1) (d.ents.flatMap sigC ++ sigC ⟨⟨i, j, xa, xd⟩, signOf d ⟨i, j, xa, xd⟩⟩)) (hg : w.grownBy w1 m.ve.ownBlock) (hf : FreshOr w m.ve v')
    (hb : Blk w4 lb ((((ledA d m).setIfInBounds 2 v').setIfInBounds (3 + i) (.int .i64 (balA (i:Int) d.ents - xa))).setIfInBounds (3 + j) (.int .i64 (balA (j:Int) d.ents + xa))) 97) (ho : Only (fun k => k = lb) w1 w4) :
    LSt w4 B lb (postD d ⟨i, j, xa, xd⟩) { m with ve := v' } ∧ Only (fun k => k = lb ∨ m.ve.ownBlock = some k) w w4 := by
  have o1 := only_grown hg
  have hon : Only (fun k => k = lb ∨ m.ve.ownBlock = some k) w w4 := (o1.weak fun k _ hk => .inr hk).tr (ho.weak fun k _ hk => .inl hk)
  have hlb := h.led.lt
  have hab := h.acc.lt
  have hva : ∀ b, m.va.ownBlock = some b → b < w.heap.size := fun b hb => by
    have hn := ok.n1
    unfold LedD.n at hn
    obtain ⟨a, c, hv, HA⟩ := h.row.form
    obtain ⟨b1, o1, ha, hc⟩ := HA.out.cells (by omega)
    have h5 := (hc 0 (by omega)).1
    rw [hv, ha] at hb
    cases hb
    exact World.block_lt_of_cell? w _ h5
  have hnew : ∀ b, v'.ownBlock = some b → m.ve.ownBlock = some b ∨ w.heap.size ≤ b := fun b hb => by
    rcases hf with hf | ⟨g, hg, hl⟩
    · exact .inl (hf ▸ hb)
    · rw [hg] at hb; cases hb; exact .inr hl
  rw [ledA_post d m v' i j xa xd hi hj hij] at hb
  have nlb : ∀ b, v'.ownBlock = some b → b ≠ lb := fun b hb => by
    rcases hnew b hb with h1 | h1
    · exact (h.nve b h1).1
    · omega
  refine ⟨⟨h.blt, hb, ?_, ?_, ?_, h.nab, h.nva, fun b hb => ?_⟩, hon⟩
  · exact h.acc.only hon fun hk => by
      rcases hk with hk | hk
      · exact h.nab hk
      · exact (h.nve _ hk).2.1 rfl
  · exact StIn.only accC_len h.row hon fun b hb hk => by
      rcases hk with hk | hk
      · exact h.nva b hb hk
      · exact (h.nve _ hk).2.2 hb
  · have e1 : (postD d ⟨i, j, xa, xd⟩).ents.length = d.ents.length + 1 := by simp [postD]
    have e2 : (postD d ⟨i, j, xa, xd⟩).ents.flatMap sigC = d.ents.flatMap sigC ++ sigC ⟨⟨i, j, xa, xd⟩, signOf d ⟨i, j, xa, xd⟩⟩ := by simp [postD]
    rw [e1, e2]
    exact owns_only hown ho fun b hb => nlb b hb
  · rcases hnew b hb with h1 | h1
    · exact h.nve b h1
    · refine ⟨by omega, by show b ≠ m.ab; omega, fun h2 => ?_⟩
      have := hva b h2
      omega
end Go.Proofs.Ytekplfbfkfiabaa
