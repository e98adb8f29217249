/- Rows of structs of the call's own: an element is changed, a beginning is taken; parts of a slice of structs. -/
import Derived.Test.YtekplfbfkfiabaaPlainKp
import Derived.Test.YtekplfbfkfiabaaBkUndo
import Derived.Maps.AppendAt
namespace Go.Proofs.Ytekplfbfkfiabaa
open Go.RowKit
set_option linter.unusedVariables false
set_option linter.unusedSimpArgs false

section
variable {α : Type} {z : Nat} {f : α → List Value}
theorem fl_mid (l : List α) (i : Nat) (hi : i < l.length) : l.flatMap f = (l.take i).flatMap f ++ (f l[i] ++ (l.drop (i + 1)).flatMap f) := by
  have h1 : l = l.take i ++ l[i] :: l.drop (i + 1) := by rw [← List.drop_eq_getElem_cons hi, List.take_append_drop]
  have h2 : (l.take i ++ l[i] :: l.drop (i + 1)).flatMap f = (l.take i).flatMap f ++ (f l[i] ++ (l.drop (i + 1)).flatMap f) := by
    rw [List.flatMap_append, List.flatMap_cons]
  rw [← h2]
  exact congrArg (List.flatMap f) h1
theorem fl_set_mid (l : List α) (i : Nat) (hi : i < l.length) (y : α) : (l.set i y).flatMap f = (l.take i).flatMap f ++ (f y ++ (l.drop (i + 1)).flatMap f) := by
  rw [List.set_eq_take_append_cons_drop, if_pos hi, List.flatMap_append, List.flatMap_cons]
theorem putL_len : ∀ (vs : List Value) (i : Nat) (cs : Array Value), (putL cs i vs).size = cs.size
  | [], _, _ => rfl
  | v :: r, i, cs => by unfold putL; rw [putL_len r]; simp
/-- An element of a row of structs. -/
theorem row_el (hz : ∀ x, (f x).length = z) {W : World} {B : Nat} {e : TypeId} {g c : Nat} {l : List α} (h : W.ownsRow B e z (.slice (some ⟨g, 0, none⟩) l.length c) l.length (l.flatMap f)) {i : Nat} (hi : i < l.length) :
    ∃ cur, Blk W g cur e ∧ i * z + z ≤ cur.size ∧ (∀ W' y, Blk W' g (putL cur (i * z) (f y)) e → W'.ownsRow B e z (.slice (some ⟨g, 0, none⟩) l.length c) l.length ((l.set i y).flatMap f)) ∧
      (∀ W' y j u, j < z → f y = (f l[i]).set j u → Blk W' g (cur.setIfInBounds (i * z + j) u) e → W'.ownsRow B e z (.slice (some ⟨g, 0, none⟩) l.length c) l.length ((l.set i y).flatMap f)) := by
  rcases h.2 with ⟨hv, _⟩ | ⟨g', cap, cur, hv, hb, hg, h1, h2, h3, h4⟩
  · cases hv
  · cases hv
    have hlen : (l.flatMap f).length = l.length * z := fl_len hz l
    obtain ⟨rest, hrest⟩ : ∃ r, r = cur.toList.drop (l.length * z) := ⟨_, rfl⟩
    have hcur : cur.toList = l.flatMap f ++ rest := by rw [hrest, ← h4, List.take_append_drop]
    have hA : ((l.take i).flatMap f).length = i * z := by rw [fl_len hz, List.length_take, Nat.min_eq_left (Nat.le_of_lt hi)]
    have hcur2 : cur = ((l.take i).flatMap f ++ (f l[i] ++ ((l.drop (i + 1)).flatMap f ++ rest))).toArray := by
      apply Array.toList_inj.1
      rw [hcur, fl_mid l i hi]
      simp
    have key : ∀ (W' : World) (y : α) (cur' : Array Value), cur' = ((l.take i).flatMap f ++ (f y ++ ((l.drop (i + 1)).flatMap f ++ rest))).toArray → Blk W' g cur' e → W'.ownsRow B e z (.slice (some ⟨g, 0, none⟩) l.length c) l.length ((l.set i y).flatMap f) := fun W' y cur' he hb' => by
      have hl2 : ((l.set i y).flatMap f).length = l.length * z := by rw [fl_len hz, List.length_set]
      refine ⟨hl2, .inr ⟨g, c, cur', rfl, hb, hb', h1, h2, ?_, ?_⟩⟩
      · have : cur'.size = cur.size := by rw [he, hcur2]; simp [hz]
        rw [this, h3]
      · rw [he]
        have e2 : (l.take i).flatMap f ++ (f y ++ ((l.drop (i + 1)).flatMap f ++ rest)) = (l.set i y).flatMap f ++ rest := by rw [fl_set_mid l i hi y]; simp
        rw [e2]
        show (((l.set i y).flatMap f ++ rest).take (l.length * z)) = _
        rw [← hl2, List.take_left]
    refine ⟨cur, hg, ?_, fun W' y hb' => key W' y _ ?_ hb', fun W' y j u hj hy hb' => key W' y _ ?_ hb'⟩
    · rw [h3]
      have : (i + 1) * z ≤ l.length * z := Nat.mul_le_mul_right _ hi
      have h5 : l.length * z ≤ c * z := Nat.mul_le_mul_right _ h1
      rw [Nat.succ_mul] at this
      omega
    · rw [hcur2, ← hA]
      exact putL_mid _ (f y) (f l[i]) _ (by rw [hz, hz])
    · rw [hy, hcur2, ← hA]
      simp only [List.setIfInBounds_toArray]
      rw [List.set_append_right _ _ (by omega), Nat.add_sub_cancel_left, List.set_append_left _ _ (by rw [hz]; exact hj)]
/-- A beginning of a row. -/
theorem row_take (hz : ∀ x, (f x).length = z) {W : World} {B : Nat} {e : TypeId} {g c : Nat} {l : List α} (h : W.ownsRow B e z (.slice (some ⟨g, 0, none⟩) l.length c) l.length (l.flatMap f)) {i : Nat} (hi : i ≤ l.length) :
    W.ownsRow B e z (.slice (some ⟨g, 0, none⟩) i c) i ((l.take i).flatMap f) := by
  have hA : ((l.take i).flatMap f).length = i * z := by rw [fl_len hz, List.length_take, Nat.min_eq_left hi]
  rcases h.2 with ⟨hv, _⟩ | ⟨g', cap, cur, hv, hb, hg, h1, h2, h3, h4⟩
  · cases hv
  · cases hv
    refine ⟨hA, .inr ⟨g, c, cur, rfl, hb, hg, Nat.le_trans hi h1, h2, h3, ?_⟩⟩
    have h5 : i * z ≤ l.length * z := Nat.mul_le_mul_right _ hi
    have h6 : cur.toList.take (i * z) = (l.flatMap f).take (i * z) := by rw [← h4, List.take_take, Nat.min_eq_left h5]
    have h7 : l.flatMap f = (l.take i).flatMap f ++ (l.drop i).flatMap f := by rw [← List.flatMap_append, List.take_append_drop]
    rw [h6, h7, ← hA, List.take_left]
theorem StIn.take_ {w : World} {b o n c c' i : Nat} {us : List α} (h : StIn z f w (.slice (some ⟨b, o, none⟩) n c) us) (hi : i ≤ us.length) : StIn z f w (.slice (some ⟨b, o, none⟩) i c') (us.take i) := by
  have hl : (us.take i).length = i := by rw [List.length_take, Nat.min_eq_left hi]
  refine ⟨by have := h.1; omega, some ⟨b, o, none⟩, c', by rw [hl], (fun e => nomatch e), fun h0 => ⟨b, o, rfl, fun k hk j hj => ?_⟩⟩
  rw [hl] at hk
  obtain ⟨b', o', e, hc⟩ := StIn.cells h (by omega)
  cases e
  rw [hc k (by omega) j hj, List.getElem_take]
theorem StIn.drop_ {w : World} {b o n c c' i : Nat} {us : List α} (h : StIn z f w (.slice (some ⟨b, o, none⟩) n c) us) (hi : i ≤ us.length) : StIn z f w (.slice (some ⟨b, o + i * z, none⟩) (us.length - i) c') (us.drop i) := by
  have hl : (us.drop i).length = us.length - i := List.length_drop
  refine ⟨by have := h.1; omega, some ⟨b, o + i * z, none⟩, c', by rw [hl], (fun e => nomatch e), fun h0 => ⟨b, o + i * z, rfl, fun k hk j hj => ?_⟩⟩
  rw [hl] at hk
  obtain ⟨b', o', e, hc⟩ := StIn.cells h (by omega)
  cases e
  have h1 := hc (i + k) (by omega) j hj
  rw [List.getElem_drop, ← h1]
  congr 2
  rw [Nat.add_mul]
  omega
end
section
variable {P : Program} {w : World} {ops : Array Oper} {o : Oper} {a : Act} {Q : Exit → Act → World → Prop} {K : Act → World → Prop} {E : Prop}
/-- append to a row, from any slice, in a region that draws. -/
theorem step_appS {t e : TypeId} {z : Value} {size bytes : Nat} (T : SliceT P t e z size bytes) (hgd : o.guard = none) {s x : Operand}
    (ho : o.op = .call { callee := .builtin .append, args := #[s, x], argTypes := #[t, t] }) {base n : Nat} {v : Value} {xs : List Value} (hs : a.eval s = v) (hown : w.ownsRow base e size v n xs)
    {ad : Addr} {m c : Nat} {news : List Value} (hx : a.eval x = .slice (some ad) m c) (hsrc : Src size w (.slice (some ad) m c) m news) (h1 : ∀ u ∈ news, u.oneCell' = true)
    (hbytes : (n + m) * bytes ≤ 140737488355328) (hbase : base ≤ w.heap.size)
    (h : ∀ v' w', w'.ownsRow base e size v' (n + m) (xs ++ news) → w.grownBy w' v.ownBlock → FreshOr w v v' → K (a.put o.dst v') w') :
    if Region.wanted o (yielded ops a.tmps) = true then Oper.wp P o a w K Q else E := by
  have hw : Region.wanted o (yielded ops a.tmps) = true := by simp [Region.wanted, hgd]
  rw [if_pos hw]
  obtain ⟨ht, hinfo, hzs, hpos, hbyt⟩ := T
  obtain ⟨i, hi, hp⟩ := Option.map_eq_some_iff.1 hinfo
  simp only [Prod.mk.injEq] at hp
  obtain ⟨hz, hsz, hby⟩ := hp
  obtain ⟨hl, ax, c', hv, hnone, hcell⟩ := hsrc
  cases hv
  have h63 : n + m ≤ maxLen := by
    have := Nat.le_mul_of_pos_right (n + m) hbyt
    unfold maxLen; omega
  obtain ⟨v', w', hr, h2, h3, h4, h5⟩ := run_append_own_at (P := P) (w := w) base t o.type e i z size bytes ht hi hz hsz hby hzs hpos v n xs hown ad m c news hl (hcell ad rfl) h1 h63 hbytes hbase
  unfold Oper.wp execOp
  simp only [ho, resolve, invoke, builtin, Sem.run_bind, Sem.run_pure, Result.andThen_ok, List.map_toArray, List.map_cons, List.map_nil, hs, hx, hr]
  exact h v' w' h2 h3 (h5.elim .inl (fun h5 => .inr ⟨_, h5, Nat.le_refl _⟩))
end
end Go.Proofs.Ytekplfbfkfiabaa
