/- Steps inside a round. -/
import Derived.Test.YtojobdffnnibaaaGreatJ8
import Derived.Test.YtojobdffnnibaaaGreatIn
namespace Go.Proofs.YtojobdffnnibaaaGreat
open Go.RowKit
set_option linter.unusedVariables false
section
variable {F : Fence} {n : Nat} {P : Program} {w w' : World} {ops : Array Oper} {rest : List Oper} {o : Oper} {a : Act} {Q : Exit → Act → World → Prop}
theorem wpListIn_allocK (hgd : o.guard = none) {t : TypeId} (ho : o.op = .alloc t) {cs : Array Value} (hz : ∀ w : World, (zeroValue t).run P w = .ok (.agg cs) w)
 (h : ∀ b w1, Blk w1 b cs t → Ext w w1 → w.heap.size ≤ b → wpListIn F n P ops Q rest (a.put o.dst (.pointer (some ⟨b, 0, none⟩))) w1) : wpListIn F n P ops Q (o :: rest) a w :=
 wpListIn_alloc hgd ho hz fun b w1 ⟨h1, h2, h3⟩ => h b w1 h1 h2 h3
theorem wpListIn_storeK (hgd : o.guard = none) {ty : TypeId} {x y : Operand} (ho : o.op = .store ty x y) {b : Nat} {cells old : Array Value} {t : TypeId} (hb : Blk w b old t)
 (hx : a.eval x = .pointer (some ⟨b, 0, none⟩)) (hy : a.eval y = .agg cells) (hi : (P.info? ty).map (·.size) = some cells.size)
 (hold : old.size = cells.size) (h1 : cells.all (·.oneCell') = true)
 (h : ∀ w1, Blk w1 b cells t → Only (fun k => k = b) w w1 → wpListIn F n P ops Q rest (a.put o.dst undef) w1) : wpListIn F n P ops Q (o :: rest) a w :=
 wpListIn_storeB hgd ho hx hy hb hi hold h1 h
theorem wpListIn_setK (hgd : o.guard = none) {ty : TypeId} {x y : Operand} (ho : o.op = .store ty x y) {b i : Nat} {v : Value} {cs : Array Value} {t : TypeId}
 (hb : Blk w b cs t) (hx : a.eval x = .pointer (some ⟨b, i, none⟩)) (hy : a.eval y = v) (hlt : i < cs.size) (hsz : (P.info? ty).map (·.size) = some 1)
 (hv : v.cells = #[v]) (h1 : v.oneCell' = true)
 (h : ∀ w1, Blk w1 b (cs.setIfInBounds i v) t → Only (fun k => k = b) w w1 → wpListIn F n P ops Q rest (a.put o.dst undef) w1) : wpListIn F n P ops Q (o :: rest) a w := by
 obtain ⟨inf, hinf, hs1⟩ := Option.map_eq_some_iff.1 hsz; have hc : (w.cell? ⟨b, i, none⟩).isSome = true := (by rw [blk_cell hb]; simp [hlt]); have hf := blk_free hb i
 have hst : (storeVar ty ⟨b, i, none⟩ v).run P w = .ok () (w.setCell ⟨b, i, none⟩ v) := by
  have hs := run_storeCells_cells (P := P) b i [v] 0 w (fun j hj => by have : j = 0 := by simpa using hj
                                                                       subst this; simpa using hc) (fun j hj => by have : j = 0 := by simpa using hj
                                                                                                                   subst this; simpa using hf) (by simpa using h1)
  simp [storeVar, sizeOf, typeInfo, hinf, hv, hs1, hs, World.setCells]
 refine wpListIn_skp hgd (by rw [ho]; intro c hc; cases hc) (by simp [Oper.about, ho]) (w' := w.setCell ⟨b, i, none⟩ v) ?_ (h _ (blk_set hb i v) (Only.set _ _ _ rfl)); unfold execOp; simp only [ho, hx, hy, Instr.storeAt, Instr.sureAddr, Sem.run_bind, Sem.run_pure, Result.andThen_ok, hst]
theorem wpListIn_updR {k e t : TypeId} (hgd : o.guard = none) {m x v : Operand} (ho : o.op = .mapUpdate t m x v) (K : Maps.Keyed P k) (ht : P.underlying t = some (.map k e)) {b : Nat} {l : List (Value × Value)} (hm : MapR P k w b l) {kx vx : Value} {lx : Lit}
 (h1 : a.eval m = .map (some b)) (h2 : a.eval x = kx) (h3 : a.eval v = vx) (hk : keyOf P k kx = some lx) (hn : ∀ y ∈ l, y.1 ≠ kx)
 (h : ∀ w1, MapR P k w1 b (l ++ [(kx, vx)]) → Only (fun i => i = b) w w1 → wpListIn F n P ops Q rest (a.put o.dst undef) w1) : wpListIn F n P ops Q (o :: rest) a w := by
 obtain ⟨w', hrun, r1, r2⟩ := hm.put (v := vx) K ht hk hn; refine wpListIn_skp hgd (by rw [ho]; intro c hc; cases hc) (by simp [Oper.about, ho]) (w' := w') ?_ (h w' r1 r2); simp [execOp, ho, h1, h2, h3, hrun, Result.andThen]
theorem wpListIn_appR {t e : TypeId} {z : Value} {size bytes : Nat} (T : SliceT P t e z size bytes) (hgd : o.guard = none) {s x : Operand}
 (ho : o.op = .call { callee := .builtin .append, args := #[s, x], argTypes := #[t, t] }) {base nn : Nat} {v : Value} {xs : List Value} (hs : a.eval s = v) (hown : w.ownsRow base e size v nn xs)
 {nb m c : Nat} {cs : List Value} (hx : a.eval x = .slice (some ⟨nb, 0, none⟩) m c) (hl : cs.length = m * size) (hm : 0 < m) (hb : ∀ j u, cs[j]? = some u → w.cell? ⟨nb, j, none⟩ = some u) (h1 : ∀ u ∈ cs, u.oneCell' = true)
 (hbytes : (nn + m) * bytes ≤ 140737488355328) (hbase : base ≤ w.heap.size)
 (h : ∀ v' w', w'.ownsRow base e size v' (nn + m) (xs ++ cs) → w.grownBy w' v.ownBlock → FreshOr w v v' → wpListIn F n P ops Q rest (a.put o.dst v') w') : wpListIn F n P ops Q (o :: rest) a w := by
 obtain ⟨v', w', hr, h2, h3, h4, h5⟩ := run_app T o.type hown (c := c) hl hm hb h1 hbytes hbase; refine wpListIn_val hgd (by rw [ho]; intro c hc; cases hc) (by simp [Oper.about, ho, resolve, Target.leads]) (v := v') (w' := w') ?_ (h v' w' h2 h3 h4); unfold execOp; simp only [ho, resolve, invoke, builtin, Sem.run_bind, Sem.run_pure, Result.andThen_ok, List.map_toArray, List.map_cons, List.map_nil, hs, hx, hr]
end
end Go.Proofs.YtojobdffnnibaaaGreat