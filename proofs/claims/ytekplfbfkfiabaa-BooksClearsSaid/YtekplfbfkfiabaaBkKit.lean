/- Laws for a walk: an empty slice literal; alloc and call in a region that draws. -/
import Derived.Test.YtekplfbfkfiabaaKit
import Derived.Test.YtekplfbfkfiabaaTail
namespace Go.Proofs.Ytekplfbfkfiabaa
open Go.RowKit
set_option linter.unusedVariables false
set_option linter.unusedSimpArgs false
section
variable {P : Program} {w : World} {ops : Array Oper} {rest : List Oper} {o : Oper} {a : Act} {Q : Exit → Act → World → Prop}
theorem wpList_build0 {t e : TypeId} {z : Value} {size bytes : Nat} (T : SliceT P t e z size bytes) (hgd : o.guard = none) (ho : o.op = .buildSlice t 0 #[])
    (h : ∀ v w', Ext w w' → w'.ownsRow w.heap.size e size v 0 [] → wpList P ops Q rest (a.put o.dst v) w') : wpList P ops Q (o :: rest) a w := by
  obtain ⟨ht, hinfo, hzs, hpos, hbyt⟩ := T
  obtain ⟨i, hi, hp⟩ := Option.map_eq_some_iff.1 hinfo
  simp only [Prod.mk.injEq] at hp
  obtain ⟨hz, hsz, hby⟩ := hp
  refine wpList_plain hgd fun K hK => ?_
  unfold Oper.wp execOp
  have hr : (Instr.buildSlice t 0 #[]).run P w = .ok (.slice (some ⟨w.heap.size, 0, none⟩) 0 0) (w.alloc (.cells #[] e)) := by
    simp [Instr.buildSlice, run_underlying ht, sizeOf, typeInfo, hi, Instr.fill, newRow]
    have : Array.range 0 = #[] := by simp
    rw [this]; simp
  simp only [ho, Sem.run_bind, Array.map_empty, hr, Result.andThen_ok]
  refine hK _ _ (h _ _ (ext_lit w _ _) ⟨by simp, .inr ⟨w.heap.size, 0, #[], rfl, Nat.le_refl _, heap_alloc_new w _, Nat.le_refl _, Nat.zero_le _, by simp, by simp⟩⟩)
end
section
variable {P : Program} {w : World} {ops : Array Oper} {rest : List Oper} {o : Oper} {a : Act} {Q : Exit → Act → World → Prop} {K : Act → World → Prop} {E : Prop}
theorem step_allocA (hgd : o.guard = none) {t : TypeId} (ho : o.op = .alloc t) {cs : Array Value} (hz : ∀ w : World, (zeroValue t).run P w = .ok (.agg cs) w)
    (h : ∀ b w1, Blk w1 b cs t → Ext w w1 → w.heap.size ≤ b → K (a.put o.dst (.pointer (some ⟨b, 0, none⟩))) w1) :
    if Region.wanted o (yielded ops a.tmps) = true then Oper.wp P o a w K Q else E := by
  have hw : Region.wanted o (yielded ops a.tmps) = true := by simp [Region.wanted, hgd]
  rw [if_pos hw]
  have hr : (execOp a.eval o).run P w = .ok (.value (.pointer (some ⟨w.heap.size, 0, none⟩))) (w.alloc (.cells cs t)) := by
    unfold execOp; rw [ho]; simp only [Instr.alloc, Sem.run_bind, hz, Result.andThen]; rfl
  unfold Oper.wp; rw [hr]
  exact h _ _ (newB w cs t).1 (newB w cs t).2.1 (newB w cs t).2.2
/-- A function is called, in a region that draws. -/
theorem step_call (hw : Region.wanted o (yielded ops a.tmps) = true) {f : FuncId} {fn : Func} {xs : Array Operand} {ats : Array TypeId} (ho : o.op = .call { callee := .value (.func f), args := xs, argTypes := ats }) {vs : Array Value} (hv2 : xs.toList.map a.eval = vs.toList)
    (hf : P.funcs[f]? = some fn) (hname : (fn.name == "runtime.NumGoroutine") = false) (hb : fn.body.isNone = false) {R : Ending → World → Prop} (hc : Calls P f vs w R)
    (h : ∀ e w', R e w' → ∃ v, e = .returned v ∧ K (a.put o.dst v) w') :
    if Region.wanted o (yielded ops a.tmps) = true then Oper.wp P o a w K Q else E := by
  rw [if_pos hw]
  have hv : xs.map a.eval = vs := by apply Array.toList_inj.1; rw [Array.toList_map]; exact hv2
  have ef : a.eval (.func f) = .func (.func f) #[] #[] := rfl
  have e1 : execOp a.eval o = callFunc f (xs.map a.eval) := by
    unfold execOp
    simp [ho, resolve, Deferred.ofValue, invoke, ef]
  have hr : (callFunc f vs).run P w = .ok (.enter f vs) w := by
    have h1 : fn.name ≠ "runtime.NumGoroutine" := by simpa using hname
    cases hbb : fn.body with
    | none => rw [hbb] at hb; cases hb
    | some c => simp [callFunc, hf, h1, hbb]
  unfold Oper.wp
  rw [e1, hv, hr, Oper.upon_enter]
  refine hc.mono fun e w' he => ?_
  obtain ⟨v, rfl, hk⟩ := h e w' he
  exact hk
end
end Go.Proofs.Ytekplfbfkfiabaa
