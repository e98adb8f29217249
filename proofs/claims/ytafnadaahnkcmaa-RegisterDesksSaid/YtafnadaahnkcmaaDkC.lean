/- RegisterDesks: steps of the walk; what comes in; the copies told from one on. -/
import Derived.Test.YtafnadaahnkcmaaDkB
namespace Go.Proofs.Ytafnadaahnkcmaa
open Go.RowKit
set_option linter.unusedVariables false
set_option linter.unusedSimpArgs false

section
variable {P : Program} {w : World} {ops : Array Oper} {rest : List Oper} {o : Oper} {a : Act} {Q : Exit → Act → World → Prop} {K : Act → World → Prop} {E : Prop}
/-- A struct's block is made, in a region that draws. -/
theorem step_allocA (hgd : o.guard = none) {t : TypeId} (ho : o.op = .alloc t) {cs : Array Value} (hz : ∀ w : World, (zeroValue t).run P w = .ok (.agg cs) w)
    (h : ∀ b w1, Blk w1 b cs t → Ext w w1 → w.heap.size ≤ b → K (a.put o.dst (.pointer (some ⟨b, 0, none⟩))) w1) :
    if Region.wanted o (yielded ops a.tmps) = true then Oper.wp P o a w K Q else E := by
  have hw : Region.wanted o (yielded ops a.tmps) = true := by simp [Region.wanted, hgd]
  rw [if_pos hw]
  have hr : (execOp a.eval o).run P w = .ok (.value (.pointer (some ⟨w.heap.size, 0, none⟩))) (w.alloc (.cells cs t)) := by
    unfold execOp; rw [ho]; simp only [Instr.alloc, Sem.run_bind, hz, Result.andThen]; rfl
  unfold Oper.wp; rw [hr]
  exact h _ _ (newB w cs t).1 (newB w cs t).2.1 (newB w cs t).2.2
/-- A function is called, in a region that draws. -/
theorem step_call (hw : Region.wanted o (yielded ops a.tmps) = true) {f : FuncId} {fn : Func} {xs : Array Operand} {ats : Array TypeId} (ho : o.op = .call { callee := .value (.func f), args := xs, argTypes := ats }) {vs : Array Value} (hv2 : xs.toList.map a.eval = vs.toList)
    (hf : P.funcs[f]? = some fn) (hname : (fn.name == "runtime.NumGoroutine") = false) (hb : fn.body.isNone = false) {R : Ending → World → Prop} (hc : Calls P f vs w R)
    (h : ∀ e w', R e w' → ∃ v, e = .returned v ∧ K (a.put o.dst v) w') :
    if Region.wanted o (yielded ops a.tmps) = true then Oper.wp P o a w K Q else E := by
  rw [if_pos hw]
  have hv : xs.map a.eval = vs := by apply Array.toList_inj.1; rw [Array.toList_map]; exact hv2
  have ef : a.eval (.func f) = .func (.func f) #[] #[] := rfl
  have e1 : execOp a.eval o = callFunc f (xs.map a.eval) := by
    unfold execOp
    simp [ho, resolve, Deferred.ofValue, invoke, ef]
  have hr : (callFunc f vs).run P w = .ok (.enter f vs) w := by
    have h1 : fn.name ≠ "runtime.NumGoroutine" := by simpa using hname
    cases hbb : fn.body with
    | none => rw [hbb] at hb; cases hb
    | some c => simp [callFunc, hf, h1, hbb]
  unfold Oper.wp
  rw [e1, hv, hr, Oper.upon_enter]
  refine hc.mono fun e w' he => ?_
  obtain ⟨v, rfl, hk⟩ := h e w' he
  exact hk
/-- A struct is stored into a row of the call's own. -/
theorem wpList_set4 (hgd : o.guard = none) {ty : TypeId} {x y : Operand} (ho : o.op = .store ty x y) {b i : Nat} {v0 v1 v2 v3 : Value} {cs : Array Value} {t : TypeId}
    (hb : Blk w b cs t) (hx : a.eval x = .pointer (some ⟨b, i, none⟩)) (hy : a.eval y = .agg #[v0, v1, v2, v3]) (hlt : i + 4 ≤ cs.size) (hsz : (P.info? ty).map (·.size) = some 4)
    (h1 : [v0, v1, v2, v3].all (·.oneCell') = true)
    (h : ∀ w1 cs', Blk w1 b cs' t → cs'.size = cs.size → Only (fun k => k = b) w w1 → wpList P ops Q rest (a.put o.dst undef) w1) : wpList P ops Q (o :: rest) a w := by
  refine wpList_plain hgd fun K hK => ?_
  obtain ⟨inf, hinf, hs1⟩ := Option.map_eq_some_iff.1 hsz
  have hc : ∀ j, (w.cell? ⟨b, i + 0 + j, none⟩).isSome = decide (i + 0 + j < cs.size) := fun j => by
    rw [blk_cell hb]
    by_cases e : i + 0 + j < cs.size
    · rw [Array.getElem?_eq_getElem e, decide_eq_true e]; rfl
    · rw [Array.getElem?_eq_none (by omega), decide_eq_false e]; rfl
  have hst : (storeVar ty ⟨b, i, none⟩ (.agg #[v0, v1, v2, v3])).run P w = .ok () (w.setCells b (i + 0) [v0, v1, v2, v3]) := by
    have hs := run_storeCells_cells (P := P) b i [v0, v1, v2, v3] 0 w (fun j hj => by rw [hc]; have : j < 4 := hj
                                                                                      exact decide_eq_true (by omega)) (fun j hj => blk_free hb _) (fun v hv => List.all_eq_true.1 h1 v hv)
    simp [storeVar, sizeOf, typeInfo, hinf, hs1, Value.cells, hs]
  unfold Oper.wp execOp
  simp only [ho, hx, hy, Instr.storeAt, Instr.sureAddr, Sem.run_bind, Sem.run_pure, Result.andThen_ok, hst]
  refine hK _ _ (h _ ((((cs.setIfInBounds (i + 0) v0).setIfInBounds (i + 0 + 1) v1).setIfInBounds (i + 0 + 1 + 1) v2).setIfInBounds (i + 0 + 1 + 1 + 1) v3) ?_ (by simp) ?_)
  · exact blk_set (blk_set (blk_set (blk_set hb _ _) _ _) _ _) _ _
  · exact (((Only.set (S := fun k => k = b) w ⟨b, i + 0, none⟩ v0 rfl).tr (Only.set _ ⟨b, _, none⟩ v1 rfl)).tr (Only.set _ ⟨b, _, none⟩ v2 rfl)).tr (Only.set _ ⟨b, _, none⟩ v3 rfl)
end

theorem LoopsIn.of_owns {w : World} {B : Nat} {e : TypeId} {v : Value} {l : List Loop} (h : w.ownsRow B e 4 v l.length (lpL l l.length)) (hl : l.length ≤ 1000) : LoopsIn w v l := by
  obtain ⟨a, c, rfl⟩ := owns_form h
  refine ⟨by omega, a, c, rfl, fun h0 => ?_⟩
  obtain ⟨g, c', hv, hc⟩ := owns_pos h h0
  cases hv
  refine ⟨g, 0, rfl, fun i hi j hj => ?_⟩
  have h1 : (lpL l l.length)[i * 4 + j]? = (lpC (l.getD i default))[j]? := flat_get (f := fun i => lpC (l.getD i default)) (fun _ => rfl) _ i j hi hj
  have h2 : l.getD i default = l[i] := by simp [List.getD, hi]
  rw [h2] at h1
  obtain ⟨u, hu⟩ : ∃ u, (lpC l[i])[j]? = some u := ⟨_, List.getElem?_eq_getElem (show j < (lpC l[i]).length from hj)⟩
  have h3 := hc (i * 4 + j) u (h1.trans hu)
  rw [Nat.zero_add, h3, ← hu]
  have : j = 0 ∨ j = 1 ∨ j = 2 ∨ j = 3 := by omega
  rcases this with rfl | rfl | rfl | rfl <;> rfl

/-- The readings that came in. -/
def RowsIn (w : World) (v : Value) (rs : List (List Int)) : Prop :=
  ∃ a c, v = .slice a rs.length c ∧ (0 < rs.length → ∃ b o, a = some ⟨b, o, none⟩ ∧ ∀ i (h : i < rs.length), ∃ a2 c2, w.cell? ⟨b, o + i, none⟩ = some (.slice a2 rs[i].length c2) ∧ Ints w (.slice a2 rs[i].length c2) rs[i])

theorem ReadPost.only {w w' : World} {db : Nat} {d : DeskD} {m : DMem} {ρ : Nat → Nat} {seen : List Int} {e : Ending} (h : ReadPost w db d m ρ seen e w') : Only (fun k => ρ k ≠ 0) w w' := by
  rcases h with ⟨_, _, h3⟩ | ⟨_, _, _, _, _, _, _, _, _, _, _, _, h9⟩
  · exact Only.of_ext h3
  · exact h9
theorem CpsIn.form {R : Nat → Prop} {w : World} {v : Value} {cs : List CopyD} (h : CpsIn R w v cs) : ∃ a c, v = .slice a cs.length c := by
  obtain ⟨a, c, h1, _⟩ := h
  exact ⟨a, c, h1⟩
/-- The reference's reading, joined with what came before and with two blocks made beside it. -/
theorem RdMid.join {R RN : Nat → Prop} {w0 w w' : World} {db tb : Nat} {vp vl vc vr ve vm : Value} {d d' : DeskD} {m : DMem} {ρ : Nat → Nat} {cs cs2 : List CopyD} {c : CopyD} (h : RdMid R w0 w db tb vp vl vc d d' m ρ vc cs c ve vm) (k : Ext w w')
    (hc : CpsIn (fun b => R b ∨ RN b) w' vr cs2) (hn : ∀ b, RN b → w.heap.size ≤ b ∧ b < w'.heap.size) : RdMid (fun b => R b ∨ RN b) w0 w' db tb vp vl vc d d' m ρ vr cs2 c ve vm :=
  have g := h.ext1 k
  { g with
    cps := hc
    r := fun b hb => by
      rcases hb with hb | hb
      · exact g.r b hb
      · obtain ⟨h1, h2⟩ := hn b hb
        refine ⟨Decidable.byContradiction fun hx => by have := h.st.hlt b hx; omega, fun e => by have := h.tbk.lt; omega, h2, fun hh => ?_⟩
        rcases hh with hh | hh
        · have := (h.re.lt b hh).2; omega
        · have := (h.rm.lt b hh).2; omega }
/-- What the reference's reading gives, whichever way it went. -/
theorem RefReadPost.any {R : Nat → Prop} {w w' : World} {vp vl vc : Value} {d : DeskD} {seen : List Int} {e : Ending} (hc : CpsIn R w vc d.copies) (hp : RefReadPost R w d vp vl vc seen e w') :
    ∃ ve' vm' vr, e = .returned (.tuple #[refD vp vl d.win d.limit vr, cpV (oC d seen).good (oC d seen).shift ve' vm', .int .i64 (oE d seen)]) ∧ Ints w' ve' (oC d seen).errs ∧ Ints w' vm' (oC d seen).moves ∧ Ext w w' ∧
      CpsIn (fun b => R b ∨ (w.heap.size ≤ b ∧ b < w'.heap.size)) w' vr (oD d seen).copies ∧ ∀ b, ve'.ownBlock = some b ∨ vm'.ownBlock = some b → w.heap.size ≤ b ∧ b < w'.heap.size := by
  obtain ⟨hx, h2⟩ := hp
  rcases h2 with ⟨h1, h2⟩ | ⟨h1, ve', vm', vr, h2, h3, h4, h5, h6⟩
  · have e2 : oC d seen = ⟨false, 0, [], []⟩ := by unfold oC; rw [if_neg h1]
    have e1 : (oD d seen).copies = d.copies := by unfold oD; rw [if_neg h1]
    refine ⟨.slice none 0 0, .slice none 0 0, vc, ?_, ?_, ?_, hx, ?_, fun b hb => by rcases hb with hb | hb <;> cases hb⟩
    · rw [e2]; unfold oE; rw [if_neg h1]; exact h2
    · rw [e2]; exact Sl.nil _
    · rw [e2]; exact Sl.nil _
    · rw [e1]; exact (hc.ext hx).weak fun b hb => .inl hb
  · have e2 : oC d seen = rC d seen := by unfold oC; rw [if_pos h1]
    have e1 : (oD d seen).copies = d.copies ++ [rC d seen] := by unfold oD; rw [if_pos h1]; rfl
    refine ⟨ve', vm', vr, ?_, ?_, ?_, hx, ?_, h6⟩
    · rw [e2]; unfold oE; rw [if_pos h1]; exact h2
    · rw [e2]; exact h3
    · rw [e2]; exact h4
    · rw [e1]; exact h5

/-- The copies that came out, from i on. -/
structure CpFrom (B : Nat) (w : World) (cs : List CopyD) (i : Nat) (v : Value) (es ms : Nat → Value) (τ : Nat → Nat) : Prop where
  hlo : ∀ b, τ b ≠ 0 → B ≤ b
  row : Row τ 1 w 59 4 v cs.length (cpL cs es ms cs.length)
  es : ∀ j, i ≤ j → j < cs.length → Row τ (2 + 2 * j) w 3 1 (es j) (cs.getD j default).errs.length ((cs.getD j default).errs.map (.int .i64))
  ms : ∀ j, i ≤ j → j < cs.length → Row τ (3 + 2 * j) w 3 1 (ms j) (cs.getD j default).moves.length ((cs.getD j default).moves.map (.int .i64))
theorem CpSt.from {B : Nat} {w : World} {cs : List CopyD} {v : Value} {es ms : Nat → Value} {τ : Nat → Nat} (h : CpSt B w cs cs.length v es ms τ) : CpFrom B w cs 0 v es ms τ :=
  ⟨h.hlo, h.row, fun j _ hj => h.es j hj, fun j _ hj => h.ms j hj⟩
theorem CpFrom.ext {B i : Nat} {w w' : World} {cs : List CopyD} {v : Value} {es ms : Nat → Value} {τ : Nat → Nat} (h : CpFrom B w cs i v es ms τ) (k : Ext w w') : CpFrom B w' cs i v es ms τ :=
  ⟨h.hlo, h.row.only (S := fun _ => False) (Only.of_ext k) (fun _ _ h => h), fun j h1 h2 => (h.es j h1 h2).only (S := fun _ => False) (Only.of_ext k) (fun _ _ h => h), fun j h1 h2 => (h.ms j h1 h2).only (S := fun _ => False) (Only.of_ext k) (fun _ _ h => h)⟩
/-- The errors of copy i are written over. -/
theorem CpFrom.next {B i : Nat} {w w' : World} {cs : List CopyD} {v : Value} {es ms : Nat → Value} {τ : Nat → Nat} (h : CpFrom B w cs i v es ms τ) (k : Only (fun b => τ b = 2 + 2 * i) w w') : CpFrom B w' cs (i + 1) v es ms τ :=
  ⟨h.hlo, h.row.only k (fun b hb e => by omega), fun j h1 h2 => (h.es j (by omega) h2).only k (fun b hb e => by omega), fun j h1 h2 => (h.ms j (by omega) h2).only k (fun b hb e => by omega)⟩
/-- What copy i of the row holds. -/
theorem CpFrom.at {B i : Nat} {w : World} {cs : List CopyD} {v : Value} {es ms : Nat → Value} {τ : Nat → Nat} (h : CpFrom B w cs i v es ms τ) (hi : i < cs.length) :
    ∃ g c ae ce am cm, v = .slice (some ⟨g, 0, none⟩) cs.length c ∧ es i = .slice ae (cs.getD i default).errs.length ce ∧ ms i = .slice am (cs.getD i default).moves.length cm ∧ τ g = 1 ∧
      (∀ j, j < 4 → w.cell? ⟨g, i * 4 + j, none⟩ = (cpC (cs.getD i default) (.slice ae (cs.getD i default).errs.length ce) (.slice am (cs.getD i default).moves.length cm))[j]?) ∧
      Ints w (.slice ae (cs.getD i default).errs.length ce) (cs.getD i default).errs ∧ Ints w (.slice am (cs.getD i default).moves.length cm) (cs.getD i default).moves ∧ Room w (.slice ae (cs.getD i default).errs.length ce) (cs.getD i default).errs.length 1 ∧
      ∀ b, (Value.slice ae (cs.getD i default).errs.length ce).ownBlock = some b → τ b = 2 + 2 * i := by
  obtain ⟨g, c, hv, hc⟩ := owns_pos h.row.1 (by omega)
  have he := h.es i (Nat.le_refl _) hi
  have hm := h.ms i (Nat.le_refl _) hi
  obtain ⟨ae, ce, e1⟩ := owns_form he.1
  obtain ⟨am, cm, e2⟩ := owns_form hm.1
  refine ⟨g, c, ae, ce, am, cm, hv, e1, e2, h.row.2 g (by rw [hv]; rfl), fun j hj => ?_, e1 ▸ he.ints, e2 ▸ hm.ints, e1 ▸ Room.of_owns he.1, fun b hb => he.2 b (by rw [e1]; exact hb)⟩
  rw [← e1, ← e2]
  have h1 := cpL_get cs es ms cs.length i j hi hj
  obtain ⟨u, hu⟩ : ∃ u, (cpC (cs.getD i default) (es i) (ms i))[j]? = some u := ⟨_, List.getElem?_eq_getElem (show j < (cpC (cs.getD i default) (es i) (ms i)).length from hj)⟩
  rw [hu] at h1 ⊢
  exact hc _ u h1
/-- What copy i of the reference's holds. -/
theorem CpsIn.at {R : Nat → Prop} {w : World} {v : Value} {cs : List CopyD} (h : CpsIn R w v cs) {i : Nat} (hi : i < cs.length) :
    ∃ b o c ae ce am cm, v = .slice (some ⟨b, o, none⟩) cs.length c ∧
      (∀ j, j < 4 → w.cell? ⟨b, o + i * 4 + j, none⟩ = (cpC (cs.getD i default) (.slice ae (cs.getD i default).errs.length ce) (.slice am (cs.getD i default).moves.length cm))[j]?) ∧
      Ints w (.slice ae (cs.getD i default).errs.length ce) (cs.getD i default).errs ∧ Ints w (.slice am (cs.getD i default).moves.length cm) (cs.getD i default).moves := by
  obtain ⟨a, c, hv, _, h2⟩ := h
  obtain ⟨b, o, rfl, _, es, ms, h4, h5⟩ := h2 (by omega)
  obtain ⟨⟨he, hm⟩, _⟩ := h5 i hi
  obtain ⟨ae, ce, e1, _⟩ := he.form
  obtain ⟨am, cm, e2, _⟩ := hm.form
  refine ⟨b, o, c, ae, ce, am, cm, hv, fun j hj => ?_, e1 ▸ he, e2 ▸ hm⟩
  rw [← e1, ← e2]
  obtain ⟨u, hu⟩ : ∃ u, (cpC (cs.getD i default) (es i) (ms i))[j]? = some u := ⟨_, List.getElem?_eq_getElem (show j < (cpC (cs.getD i default) (es i) (ms i)).length from hj)⟩
  rw [hu]
  exact h4 i j u hi hj hu
/-- The row alone. -/
theorem CpFrom.rowOnly {B i : Nat} {w w' : World} {cs : List CopyD} {v : Value} {es ms : Nat → Value} {τ : Nat → Nat} (h : CpFrom B w cs i v es ms τ) (k : Only (fun b => τ b = 2 + 2 * i) w w') : Row τ 1 w' 59 4 v cs.length (cpL cs es ms cs.length) :=
  h.row.only k (fun b hb e => by omega)
end Go.Proofs.Ytafnadaahnkcmaa
