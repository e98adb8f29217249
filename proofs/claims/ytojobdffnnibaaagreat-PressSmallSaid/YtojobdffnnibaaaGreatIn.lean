/- The steps of Base inside a fence. -/
import Derived.Test.YtojobdffnnibaaaGreatBase
import Derived.OwnWalkIn
import Derived.TacticsIn
namespace Go.Proofs.YtojobdffnnibaaaGreat
open Go.RowKit
set_option linter.unusedVariables false
section
variable {F : Fence} {n : Nat} {P : Program} {w w' : World} {ops : Array Oper} {rest : List Oper} {o : Oper} {a : Act} {Q : Exit → Act → World → Prop}
theorem wpListIn_val (hgd : o.guard = none) (hnd : ∀ c, o.op ≠ .defer c) (hab : o.about P w a.eval = none) {v : Value} (hr : (execOp a.eval o).run P w = .ok (.value v) w')
 (h : wpListIn F n P ops Q rest (a.put o.dst v) w') : wpListIn F n P ops Q (o :: rest) a w := by
 refine wpListIn_plain hgd fun K hK => ?_; unfold Oper.wpIn; refine ⟨fun f hf => (by rw [hab] at hf; cases hf), ?_⟩; rw [Oper.semAt_plain F _ _ hnd, hr, Oper.uponIn_value]; exact hK _ _ h
theorem wpListIn_skp (hgd : o.guard = none) (hnd : ∀ c, o.op ≠ .defer c) (hab : o.about P w a.eval = none) (hr : (execOp a.eval o).run P w = .ok .skip w')
 (h : wpListIn F n P ops Q rest (a.put o.dst undef) w') : wpListIn F n P ops Q (o :: rest) a w := by
 refine wpListIn_plain hgd fun K hK => ?_; unfold Oper.wpIn; refine ⟨fun f hf => (by rw [hab] at hf; cases hf), ?_⟩; rw [Oper.semAt_plain F _ _ hnd, hr, Oper.uponIn_skip]; exact hK _ _ h
theorem wpListIn_alloc (hgd : o.guard = none) {t : TypeId} (ho : o.op = .alloc t) {z : Value} (hz : ∀ w : World, (zeroValue t).run P w = .ok z w)
 (h : ∀ b w1, NewB w z.cells t b w1 → wpListIn F n P ops Q rest (a.put o.dst (.pointer (some ⟨b, 0, none⟩))) w1) : wpListIn F n P ops Q (o :: rest) a w := by
 refine wpListIn_val hgd (by rw [ho]; intro c hc; cases hc) (by simp [Oper.about, ho]) (v := .pointer (some ⟨w.heap.size, 0, none⟩)) (w' := w.alloc (.cells z.cells t)) ?_ (h _ _ (newB w z.cells t)); unfold execOp; rw [ho]; simp only [Instr.alloc, Sem.run_bind, hz, Result.andThen]; rfl
theorem wpListIn_storeB (hgd : o.guard = none) {ty : TypeId} {x y : Operand} (ho : o.op = .store ty x y) {b : Nat} {cells old : Array Value} {t : TypeId}
 (hx : a.eval x = .pointer (some ⟨b, 0, none⟩)) (hy : a.eval y = .agg cells) (hb : w.heap[b]? = some (.cells old t (0, 0))) (hi : (P.info? ty).map (·.size) = some cells.size)
 (hold : old.size = cells.size) (h1 : cells.all (·.oneCell') = true)
 (h : ∀ w1, w1.heap[b]? = some (.cells cells t (0, 0)) → Only (fun k => k = b) w w1 → wpListIn F n P ops Q rest (a.put o.dst undef) w1) : wpListIn F n P ops Q (o :: rest) a w := by
 refine wpListIn_skp hgd (by rw [ho]; intro c hc; cases hc) (by simp [Oper.about, ho]) (w' := w.setRow b cells) ?_ (h _ (setRow_heap w b old cells t (0, 0) hb) ⟨rfl, rfl, rfl, by simp [World.setRow], fun k _ hk => setRow_other w b k cells hk⟩); unfold execOp; simp only [ho, hx, hy, Instr.storeAt, Instr.sureAddr, Sem.run_bind, Sem.run_pure, Result.andThen_ok, run_storeVar_row w b t ty old cells hb hi hold h1]
end
end Go.Proofs.YtojobdffnnibaaaGreat