/- What BooksCloses looks at, in plain words; two rows of numbers that grow side by side. -/
import Derived.Test.YtekplfbfkfiabaaPlainBa
import Derived.Test.YtekplfbfkfiabaaKept0
namespace Go.Proofs.Ytekplfbfkfiabaa
open Go.RowKit
set_option linter.unusedVariables false

theorem all_days {d : LedD} (ok : LedOk d) {D : Int} (h : d.last ≤ D) : ∀ x ∈ d.ents, x.e.day ≤ D := fun x hx => by
  unfold LedD.last at h
  cases hg : d.ents.getLast? with
  | none => rw [List.getLast?_eq_none_iff] at hg; rw [hg] at hx; cases hx
  | some z => rw [hg] at h; have := ok.up.le_last hg x hx; dsimp only at h; omega
theorem balU_last {d : LedD} (ok : LedOk d) {D : Int} (h : d.last ≤ D) (i : Int) : balU i D d.ents = balA i d.ents := balU_all i D d.ents (all_days ok h)
theorem stkN_at (l : List AccD) (i : Nat) (hs : (l.getD i default).stock = true) : ∀ n, i < n → (stkN l n)[(stkN l i).length]? = some i
  | 0, h => by omega
  | n + 1, h => by
    rw [stkN_succ]
    by_cases e : i = n
    · subst e
      rw [if_pos hs, List.getElem?_append_right (Nat.le_refl _), Nat.sub_self]; rfl
    · have ih := stkN_at l i hs n (by omega)
      rw [List.getElem?_append_left (List.getElem?_eq_some_iff.1 ih).1]
      exact ih
theorem closes_at {d : LedD} {cs : List Int} {day : Int} {R : LedD × List Int × Int} (g : ClG d day [] (closeP d cs) R) (hlen : cs.length = d.stk.length) {i : Nat} (hi : i < d.n) (hs : (d.at' (i : Int)).stock = true) :
    (stkN d.acc i).length < cs.length ∧ balA (i : Int) R.1.ents = gI cs (stkN d.acc i).length ∧ gI R.2.1 (stkN d.acc i).length = gI cs (stkN d.acc i).length - balA (i : Int) d.ents := by
  have hs2 : (d.acc.getD i default).stock = true := by
    unfold LedD.at' at hs
    rw [Int.toNat_natCast] at hs
    exact hs
  have hk := stkN_at d.acc i hs2 d.n hi
  obtain ⟨k, hke⟩ : ∃ k, k = (stkN d.acc i).length := ⟨_, rfl⟩
  rw [← hke] at hk ⊢
  have hk2 : d.stk[k]? = some i := hk
  have hkl := (List.getElem?_eq_some_iff.1 hk2).1
  have hkc : k < cs.length := by omega
  have hz : (closeP d cs)[k]? = some (i, gI cs k) := by
    unfold closeP
    rw [List.getElem?_zip_eq_some]
    exact ⟨hk2, by rw [gI_get hkc]; exact List.getElem?_eq_getElem hkc⟩
  have hm := List.mem_of_getElem? hz
  refine ⟨hkc, g.bal _ hm, ?_⟩
  have h1 : R.2.1[k]? = some (gI cs k - balA (i : Int) d.ents) := by
    rw [g.dif, List.nil_append, List.getElem?_map, hz]; rfl
  have h2 := (List.getElem?_eq_some_iff.1 h1)
  rw [gI_get h2.1]
  exact h2.2
/-- Two rows of numbers. -/
structure R2 (B : Nat) (W : World) (v1 v2 : Value) (xs ys : List Int) : Prop where
  o1 : W.ownsRow B 3 1 v1 xs.length (xs.map (.int .i64))
  o2 : W.ownsRow B 3 1 v2 ys.length (ys.map (.int .i64))
  ne : ∀ b, v1.ownBlock = some b → v2.ownBlock ≠ some b
section
variable {B : Nat} {W W' : World} {v1 v2 v' : Value} {xs ys : List Int} {x : Int}
theorem R2.ext (h : R2 B W v1 v2 xs ys) (k : Ext W W') : R2 B W' v1 v2 xs ys := ⟨owns_ext h.o1 k, owns_ext h.o2 k, h.ne⟩
theorem R2.app1 (h : R2 B W v1 v2 xs ys) (h1 : W'.ownsRow B 3 1 v' (xs.length + 1) (xs.map (.int .i64) ++ [.int .i64 x])) (hg : W.grownBy W' v1.ownBlock) (hf : FreshOr W v1 v') : R2 B W' v' v2 (xs ++ [x]) ys := by
  refine ⟨by rw [List.length_append, List.map_append]; exact h1, owns_only h.o2 (only_grown hg) (fun b hb e => h.ne b e hb), fun b hb hb2 => ?_⟩
  rcases hf with hf | ⟨g, hg2, hl⟩
  · exact h.ne b (hf ▸ hb) hb2
  · rw [hg2] at hb; cases hb
    have := (h.o2.lt _ hb2).2
    omega
theorem R2.app2 (h : R2 B W v1 v2 xs ys) (h1 : W'.ownsRow B 3 1 v' (ys.length + 1) (ys.map (.int .i64) ++ [.int .i64 x])) (hg : W.grownBy W' v2.ownBlock) (hf : FreshOr W v2 v') : R2 B W' v1 v' xs (ys ++ [x]) := by
  refine ⟨owns_only h.o1 (only_grown hg) (fun b hb e => h.ne b hb e), by rw [List.length_append, List.map_append]; exact h1, fun b hb hb2 => ?_⟩
  rcases hf with hf | ⟨g, hg2, hl⟩
  · exact h.ne b hb (hf ▸ hb2)
  · rw [hg2] at hb2; cases hb2
    have := (h.o1.lt _ hb).2
    omega
end
/-- What the later posts leave as it was. -/
structure CsI (l : List AccD) (d2 d : LedD) : Prop where
  ok : LedOk d
  acc : d.acc = l
  clo : d.closed = 1000
  bal : ∀ i : Int, balU i 1000 d.ents = balU i 1000 d2.ents
theorem CsI.post {l : List AccD} {d2 d : LedD} (h : CsI l d2 d) {x : EntD} (hx : postErr d x = 0) : CsI l d2 (postD d x) ∧ 1000 < x.day := by
  have h5 := (postErr_ok hx).2.2.2.2.1
  rw [h.clo] at h5
  refine ⟨⟨h.ok.post hx, h.acc, h.clo, fun i => ?_⟩, h5⟩
  show balU i 1000 (d.ents ++ [_]) = _
  rw [balU_snoc, if_neg (by dsimp only; omega), Int.add_zero]
  exact h.bal i
end Go.Proofs.Ytekplfbfkfiabaa
