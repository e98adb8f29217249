/- A map of the call's own, told by its entries in their order: any key that the kit's 'Keyed' knows. -/
import Derived.Test.YtojobdffnnibaaaGreatJ4
import Derived.Maps.Own
import Derived.DeepKeys4
namespace Go.Proofs.YtojobdffnnibaaaGreat
open Go.RowKit Go.Maps
set_option linter.unusedVariables false
set_option linter.unusedSimpArgs false
/-- Block b is a map with the entries l. -/
def MapR (P : Program) (k : TypeId) (w : World) (b : Nat) (l : List (Value × Value)) : Prop :=
 (∀ x ∈ l, ∃ lit, keyOf P k x.1 = some lit) ∧ ∃ es clock, w.heap[b]? = some (.map es clock) ∧ es.toList.map (fun e => (e.key, e.val)) = l
section
variable {P : Program} {k e t : TypeId} {w w' : World} {b : Nat} {l : List (Value × Value)}
theorem MapR.lt (h : MapR P k w b l) : b < w.heap.size := by
 obtain ⟨_, es, c, hb, _⟩ := h; exact (Array.getElem?_eq_some_iff.1 hb).1
theorem MapR.only {S : Nat → Prop} (h : MapR P k w b l) (o : Only S w w') (hs : ¬ S b) : MapR P k w' b l := by
 obtain ⟨h1, es, c, hb, hl⟩ := h; exact ⟨h1, es, c, o.heap hb hs, hl⟩
theorem MapR.ext (h : MapR P k w b l) (o : Ext w w') : MapR P k w' b l :=
 h.only (S := fun _ => False) (Only.of_ext o) id
theorem MapR.find (h : MapR P k w b l) (K : Keyed P k) {x : Value} {lx : Lit} (hx : keyOf P k x = some lx) {es : Array MapEntry} (hl : es.toList.map (fun e => (e.key, e.val)) = l) :
 ((Instr.findKey k x es.toList).run P w = .ok none w ∧ ∀ y ∈ l, y.1 ≠ x) ∨ ∃ j v, (Instr.findKey k x es.toList).run P w = .ok (some (j, v)) w ∧ (x, v) ∈ l := by
 have hes : ∀ e ∈ es.toList, ∃ lit, keyOf P k e.key = some lit := fun e he => h.1 (e.key, e.val) (by rw [← hl]; exact List.mem_map.2 ⟨e, he, rfl⟩)
 rcases K.find w hx es.toList hes with ⟨h1, h2⟩ | ⟨j, e0, h1, h2, h3⟩
 { refine .inl ⟨h1, fun y hy => ?_⟩; rw [← hl] at hy; obtain ⟨e0, he, rfl⟩ := List.mem_map.1 hy; exact h2 e0 he }
 { refine .inr ⟨j, e0.val, h1, ?_⟩; rw [← hl]; exact List.mem_map.2 ⟨e0, List.mem_of_getElem? h2, by rw [h3]⟩ }
theorem MapR.look (h : MapR P k w b l) (K : Keyed P k) (ht : P.underlying t = some (.map k e)) {x v : Value} {lx : Lit} (hx : keyOf P k x = some lx) (hm : ∀ v', (x, v') ∈ l → v' = v) (hi : ∃ v', (x, v') ∈ l) (ok : Bool) :
 (Instr.lookup t (.map (some b)) x ok).run P w = .ok (if ok then .tuple #[v, .bool true] else v) w := by
 obtain ⟨h1, es, c, hb, hl⟩ := id h
 rcases h.find K hx hl with ⟨h2, h3⟩ | ⟨j, v', h2, h3⟩
 · obtain ⟨v', hv⟩ := hi
   exact absurd rfl (h3 _ hv)
 { have := hm _ h3; subst this; simp [Instr.lookup, run_underlying ht, MapKept.run_getObj_map hb, K.check w _ hx, h2, Result.andThen] }
theorem MapR.miss (h : MapR P k w b l) (K : Keyed P k) (ht : P.underlying t = some (.map k e)) {x z : Value} {lx : Lit} (hx : keyOf P k x = some lx) (hz : (zeroValue e).run P w = .ok z w) (hm : ∀ y ∈ l, y.1 ≠ x) (ok : Bool) :
 (Instr.lookup t (.map (some b)) x ok).run P w = .ok (if ok then .tuple #[z, .bool false] else z) w := by
 obtain ⟨h1, es, c, hb, hl⟩ := id h
 rcases h.find K hx hl with ⟨h2, h3⟩ | ⟨j, v', h2, h3⟩
 · simp [Instr.lookup, run_underlying ht, MapKept.run_getObj_map hb, K.check w _ hx, h2, hz, Result.andThen]
 · exact absurd rfl (hm _ h3)
theorem MapR.put (h : MapR P k w b l) (K : Keyed P k) (ht : P.underlying t = some (.map k e)) {x v : Value} {lx : Lit} (hx : keyOf P k x = some lx) (hm : ∀ y ∈ l, y.1 ≠ x) :
 ∃ w', (Instr.mapUpdate t (.map (some b)) x v).run P w = .ok () w' ∧ MapR P k w' b (l ++ [(x, v)]) ∧ Only (fun i => i = b) w w' := by
 obtain ⟨h1, es, c, hb, hl⟩ := id h
 rcases h.find K hx hl with ⟨h2, h3⟩ | ⟨j, v', h2, h3⟩
 {
 refine ⟨ChangeMaps.setBlock w b (.map (es.push { key := x, val := v, born := c }) (c + 1)), ?_, ⟨?_, _, _, ChangeMaps.heap_setBlock_same hb _, ?_⟩, ⟨rfl, rfl, rfl, by simp [ChangeMaps.setBlock], fun i _ hi => ChangeMaps.heap_setBlock_other hb _ hi⟩⟩
 · simp [Instr.mapUpdate, run_underlying ht, MapKept.run_getObj_map hb, K.check w _ hx, h2, MapKept.run_setObj_map _ hb, Result.andThen, ChangeMaps.setBlock]
 {
 intro y hy
 rcases List.mem_append.1 hy with hy | hy
 · exact h1 y hy
 · rw [List.mem_singleton.1 hy]; exact ⟨lx, hx⟩
 }
 · rw [Array.toList_push, List.map_append, hl]; rfl
 }
 · exact absurd rfl (hm _ h3)
end
section
variable {P : Program} {w : World} {ops : Array Oper} {rest : List Oper} {o : Oper} {a : Act} {Q : Exit → Act → World → Prop}
theorem wpList_makeMapR {k t : TypeId} (hgd : o.guard = none) (ho : o.op = .makeMap t none)
 (h : ∀ b w1, MapR P k w1 b [] → Ext w w1 → w.heap.size ≤ b → wpList P ops Q rest (a.put o.dst (.map (some b))) w1) : wpList P ops Q (o :: rest) a w := by
 refine wpList_plain hgd fun K hK => ?_
 have hr : (execOp a.eval o).run P w = .ok (.value (.map (some w.heap.size))) (w.alloc (.map #[] 0)) := by
  unfold execOp; rw [ho]; simp only [Sem.run_bind, Option.map_none, run_makeMap, Result.andThen]; rfl
 unfold Oper.wp; rw [hr]; refine hK _ _ (h _ _ ⟨fun k hk => (by cases hk), #[], 0, heap_alloc_new w _, rfl⟩ ((Below.refl _ _).alloc (Nat.le_refl _) _) (Nat.le_refl _))
theorem wpList_insertR {k e t : TypeId} (hgd : o.guard = none) {m x v : Operand} (ho : o.op = .insert t m x v) (K : Keyed P k) (ht : P.underlying t = some (.map k e)) {b : Nat} {l : List (Value × Value)} (hm : MapR P k w b l) {kx vx : Value} {lx : Lit}
 (h1 : a.eval m = .map (some b)) (h2 : a.eval x = kx) (h3 : a.eval v = vx) (hk : keyOf P k kx = some lx) (hn : ∀ y ∈ l, y.1 ≠ kx)
 (h : ∀ w1, MapR P k w1 b (l ++ [(kx, vx)]) → Only (fun i => i = b) w w1 → wpList P ops Q rest (a.put o.dst undef) w1) : wpList P ops Q (o :: rest) a w := by
 refine wpList_plain hgd fun K' hK => ?_; obtain ⟨w', hrun, r1, r2⟩ := hm.put (v := vx) K ht hk hn; unfold Oper.wp; simp [execOp, ho, h1, h2, h3, hrun, Result.andThen]; exact hK _ _ (h w' r1 r2)
end
theorem uInt : Tryz.prog.underlying 3 = some (.int .i64) := Tryz.underlying3
theorem kInt : Keyed Tryz.prog 3 := int_keyed uInt
theorem lit_wf {n : Int} (h : I64 n) : (Lit.int .i64 n).wf = true := by unfold I64 at h; simp [Lit.wf, IntKind.min, IntKind.max, IntKind.signed, IntKind.bits]; omega
theorem keyInt {n : Int} (h : I64 n) : keyOf Tryz.prog 3 (.int .i64 n) = some (.int .i64 n) := keyOf_int_mk uInt (lit_wf h)
theorem uRules : Tryz.prog.underlying 156 = some (.map 3 154) := by kernel_rfl
theorem uSeen : Tryz.prog.underlying 145 = some (.map 105 4) := by kernel_rfl
theorem laidOut7 : laidOutB Tryz.prog = true := by kernel_rfl
theorem kSit : Keyed Tryz.prog 105 :=
 Keyed.of_law (deep_law_laid laidOut7 (m := 2) (by omega) (of_decide_eq_true (by kernel_rfl)) (by kernel_rfl) (by kernel_rfl))
end Go.Proofs.YtojobdffnnibaaaGreat