/- RegisterDesks: when a copy is good, in the reference's words. -/
import Derived.Test.YtafnadaahnkcmaaKeep0
import Derived.Test.YtafnadaahnkcmaaNew
namespace Go.Proofs.Ytafnadaahnkcmaa
open Go.RowKit
set_option linter.unusedVariables false

theorem farL_ge (xs : List Int) (x : Int) (h : x ∈ xs) : x ≤ farL xs ∧ -x ≤ farL xs := by
  have mono : ∀ (xs : List Int) (a : Int), a ≤ xs.foldl (fun n x => max (max n x) (-x)) a := by
    intro xs
    induction xs with
    | nil => intro a; exact Int.le_refl _
    | cons y xs ih => intro a; rw [List.foldl_cons]; have := ih (max (max a y) (-y)); omega
  have key : ∀ (xs : List Int) (a : Int), x ∈ xs → x ≤ xs.foldl (fun n x => max (max n x) (-x)) a ∧ -x ≤ xs.foldl (fun n x => max (max n x) (-x)) a := by
    intro xs
    induction xs with
    | nil => intro a h; cases h
    | cons y xs ih =>
      intro a h
      rw [List.foldl_cons]
      rcases List.mem_cons.1 h with rfl | h
      · have := mono xs (max (max a x) (-x)); omega
      · exact ih _ h
  exact key xs 0 h
theorem farL_iff (B : Int) (hB : 0 ≤ B) (xs : List Int) : farL xs ≤ B ↔ ∀ x ∈ xs, -B ≤ x ∧ x ≤ B :=
  ⟨fun h x hx => by have := farL_ge xs x hx; omega, fun h => farL_le B hB xs h⟩

/-- A copy is good if the pattern was found, and every error is there and within the limit. -/
theorem rGood_iff (d : DeskD) (seen : List Int) (hok : DOk d) : rGood d seen = true ↔ rIs d seen = true ∧ ∀ i, i < d.n → rErr d seen i ≠ lostN ∧ -d.limit ≤ rErr d seen i ∧ rErr d seen i ≤ d.limit := by
  obtain ⟨b, c, hb, _, hc, _⟩ := best_pair d.pat seen d.win
  have hB : rB d seen = (b, c) := by unfold rB; exact hb
  have hF : rF d seen = fitL d.pat seen d.win b := by unfold rF; rw [hB]
  obtain ⟨fl, hfl⟩ : ∃ fl, fl = fitL d.pat seen d.win b := ⟨_, rfl⟩
  have hll : fl.length = d.pat.length := by rw [hfl]; simp [fitL]
  rw [← hfl] at hF hc
  have hpn := hok.pn
  obtain ⟨hl0, hl1⟩ := hok.lim
  unfold cntL at hc
  have hg : rGood d seen = (rIs d seen && (c == d.pat.length) && decide (farL (rErrs d seen d.n) ≤ d.limit)) := by unfold rGood; rw [hB]
  rw [hg]
  simp only [Bool.and_eq_true, beq_iff_eq, decide_eq_true_eq]
  constructor
  · rintro ⟨⟨h1, h2⟩, h3⟩
    refine ⟨h1, fun i hi => ?_⟩
    have hm := (farL_iff d.limit hl0 _).1 h3 (rErr d seen i) (List.mem_map.2 ⟨i, by simpa using hi, rfl⟩)
    refine ⟨fun h => ?_, hm⟩
    rw [h] at hm
    unfold lostN at hm
    omega
  · rintro ⟨h1, h2⟩
    refine ⟨⟨h1, ?_⟩, (farL_iff d.limit hl0 _).2 fun x hx => ?_⟩
    · have hall : ∀ x ∈ fl, (x != 1000000000) = true := fun x hx => by
        obtain ⟨j, hj, rfl⟩ := List.mem_iff_getElem.1 hx
        rw [bne_iff_ne]
        rw [← gD_lt hj]
        cases j with
        | zero => have := rIs_f0 h1; rw [hF] at this; exact this
        | succ i =>
          intro he
          have h3 := (h2 i (by omega)).1
          apply h3
          unfold rErr
          rw [if_neg (fun h => h.2 (by rw [hF]; exact he))]
      rw [List.filter_eq_self.2 hall, hll] at hc
      exact hc
    · obtain ⟨i, hi, rfl⟩ := List.mem_map.1 hx
      exact (h2 i (by simpa using hi)).2

/-- The moves of one loop in all copies. -/
def mvs (d : DeskD) (i : Nat) : List Int := d.copies.map fun c => gD c.moves i
theorem mvs_len (d : DeskD) (i : Nat) : (mvs d i).length = d.copies.length := by simp [mvs]
/-- A loop's queue is the last Dead moves of its copies. -/
def QLast (d : DeskD) : Prop := ∀ i, i < d.n → d.q i = (List.replicate (d.loop i).dead.toNat 0 ++ mvs d i).drop d.copies.length
theorem QLast.new (pat : List Int) (l : List Loop) (win limit : Int) : QLast (newD pat l win limit) := fun i hi => by
  have hi' : i < l.length := hi
  simp [newD, DeskD.q, DeskD.loop, mvs, List.getD, hi']
theorem mvs_read (d : DeskD) (seen : List Int) (i : Nat) (hi : i < d.n) : mvs (readD d seen) i = mvs d i ++ [rMov d seen i] := by
  unfold mvs readD
  simp only [List.map_append, List.map_cons, List.map_nil]
  congr 2
  show gD (rMovs d seen d.n) i = _
  rw [gD_lt (by simpa [rMovs] using hi)]
  simp [rMovs]
theorem QLast.read {d : DeskD} (h : QLast d) (seen : List Int) : QLast (readD d seen) := fun i hi => by
  have hi' : i < d.n := hi
  have hq : (readD d seen).q i = tlQ (d.q i) (rMov d seen i) := by
    show (qsAt d seen d.n).getD i [] = _
    rw [qsAt_get d seen d.n i hi', if_pos hi']
  have hl : (readD d seen).loop i = d.loop i := rfl
  have hc : (readD d seen).copies.length = d.copies.length + 1 := by simp [readD]
  rw [hq, hl, hc, mvs_read d seen i hi', h i hi']
  have hall : (List.replicate (d.loop i).dead.toNat 0 ++ mvs d i).drop d.copies.length ++ [rMov d seen i] = (List.replicate (d.loop i).dead.toNat 0 ++ (mvs d i ++ [rMov d seen i])).drop d.copies.length := by
    rw [← List.append_assoc]
    exact (List.drop_append_of_le_length (by simp [mvs_len])).symm
  unfold tlQ
  rw [hall, List.tail_drop]
theorem QLast.sum {d : DeskD} (h : QLast d) (i : Nat) (hi : i < d.n) : sumL (d.q i) = sumL ((mvs d i).drop ((mvs d i).length - (d.loop i).dead.toNat)) := by
  rw [h i hi, List.drop_append, sumL_app, mvs_len, List.length_replicate, List.drop_replicate, sumL_rep]
  omega
end Go.Proofs.Ytafnadaahnkcmaa
