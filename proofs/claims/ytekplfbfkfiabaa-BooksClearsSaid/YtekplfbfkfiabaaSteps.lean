/- Steps of walks and facts on rows that no statement owns (gathered from the first seat's texts). -/
import Derived.Test.YtekplfbfkfiabaaKit
import Derived.Test.YtekplfbfkfiabaaTail
import Derived.Great.BuildSlice
import Derived.Deep.DeepCutAuto
namespace Go.Proofs.Ytekplfbfkfiabaa
open Go.RowKit
set_option linter.unusedVariables false
set_option linter.unusedSimpArgs false

section
variable {P : Program} {w : World} {ops : Array Oper} {o : Oper} {a : Act} {Q : Exit → Act → World → Prop} {K : Act → World → Prop} {E : Prop}
/-- A slice of one is built. -/
theorem step_build1 {t e : TypeId} {z : Value} {size bytes : Nat} (T : SliceT P t e z size bytes) (hgd : o.guard = none) {x : Operand} (ho : o.op = .buildSlice t 1 #[(0, x)]) {v : Value} (hx : a.eval x = v) (cs : List Value)
    (hsm : size ≤ 1000) (hv : v.cells.toList = cs) (hcs : cs.length = size)
    (h : ∀ b w', Ext w w' → w.heap.size ≤ b → b < w'.heap.size → (∀ j u, cs[j]? = some u → w'.cell? ⟨b, j, none⟩ = some u) → K (a.put o.dst (.slice (some ⟨b, 0, none⟩) 1 1)) w') :
    if Region.wanted o (yielded ops a.tmps) = true then Oper.wp P o a w K Q else E := by
  have hw : Region.wanted o (yielded ops a.tmps) = true := by simp [Region.wanted, hgd]
  rw [if_pos hw]
  obtain ⟨ht, hinfo, hzs, hpos, hbyt⟩ := T
  obtain ⟨i, hi, hp⟩ := Option.map_eq_some_iff.1 hinfo
  simp only [Prod.mk.injEq] at hp
  obtain ⟨hz, hsz, hby⟩ := hp
  refine wp_buildSlice t e 1 #[(0, x)] ho cs.toArray i z ht hi hz (by rw [hsz]; omega) (by rw [hsz]; omega) ?_ ?_
  · rw [hsz]
    have : (#[(0, x)].map fun ((i, x) : Nat × Operand) => (i, a.eval x)).toList = [(0, v)] := by simp [hx]
    rw [this]
    have h2 := Great.fill_whole (s := size) (by omega) [v] ((Array.range (1 * size)).map (z.cells[· % z.cells.size]!)) (fun u hu => by rw [List.mem_singleton.1 hu, ← Array.length_toList, hv, hcs]) (by simp)
    have h3 : ([v].flatMap fun v => v.cells.toList).toArray = cs.toArray := by simp [hv]
    rw [h3] at h2
    exact h2
  · exact h _ _ (ext_lit w _ _) (Nat.le_refl _) (by simp) (new_cells w cs e)
/-- One cell of a block of the call's own is stored. -/
theorem step_setK (hgd : o.guard = none) {ty : TypeId} {x y : Operand} (ho : o.op = .store ty x y) {b i : Nat} {v : Value} {cs : Array Value} {t : TypeId}
    (hb : Blk w b cs t) (hx : a.eval x = .pointer (some ⟨b, i, none⟩)) (hy : a.eval y = v) (hlt : i < cs.size) (hsz : (P.info? ty).map (·.size) = some 1)
    (hv : v.cells = #[v]) (h1 : v.oneCell' = true)
    (h : ∀ w1, w1 = w.setCell ⟨b, i, none⟩ v → Blk w1 b (cs.setIfInBounds i v) t → Only (fun k => k = b) w w1 → K (a.put o.dst undef) w1) :
    if Region.wanted o (yielded ops a.tmps) = true then Oper.wp P o a w K Q else E := by
  have hw : Region.wanted o (yielded ops a.tmps) = true := by simp [Region.wanted, hgd]
  rw [if_pos hw]
  obtain ⟨inf, hinf, hs1⟩ := Option.map_eq_some_iff.1 hsz
  have hc : (w.cell? ⟨b, i, none⟩).isSome = true := by rw [blk_cell hb]; simp [hlt]
  have hf := blk_free hb i
  obtain ⟨u, hu⟩ := Option.isSome_iff_exists.1 hc
  have hst : (storeVar ty ⟨b, i, none⟩ v).run P w = .ok () (w.setCell ⟨b, i, none⟩ v) := by
    have hs := run_storeCells_cells (P := P) b i [v] 0 w (fun j hj => by have : j = 0 := by simpa using hj
                                                                         subst this; simpa using hc) (fun j hj => by have : j = 0 := by simpa using hj
                                                                                                                     subst this; simpa using hf) (by simpa using h1)
    simp [storeVar, sizeOf, typeInfo, hinf, hv, hs1, hs, World.setCells]
  unfold Oper.wp execOp
  simp only [ho, hx, hy, Instr.storeAt, Instr.sureAddr, Sem.run_bind, Sem.run_pure, Result.andThen_ok, hst]
  exact h _ rfl (blk_set hb i v) (Only.set _ _ _ rfl)
end

section
variable {P : Program} {w : World} {ops : Array Oper} {rest : List Oper} {o : Oper} {a : Act} {Q : Exit → Act → World → Prop} {K : Act → World → Prop} {E : Prop}
/-- A struct is stored whole into a block of the call's own, in a region that draws. -/
theorem step_storeK (hgd : o.guard = none) {ty : TypeId} {x y : Operand} (ho : o.op = .store ty x y) {b : Nat} {cells old : Array Value} {t : TypeId}
    (hb : Blk w b old t) (hx : a.eval x = .pointer (some ⟨b, 0, none⟩)) (hy : a.eval y = .agg cells) (hi : (P.info? ty).map (·.size) = some cells.size)
    (hold : old.size = cells.size) (h1 : cells.all (·.oneCell') = true)
    (h : ∀ w1, Blk w1 b cells t → Only (fun k => k = b) w w1 → K (a.put o.dst undef) w1) :
    if Region.wanted o (yielded ops a.tmps) = true then Oper.wp P o a w K Q else E := by
  have hw : Region.wanted o (yielded ops a.tmps) = true := by simp [Region.wanted, hgd]
  rw [if_pos hw]
  exact wp_store_row ty x y ho b cells hx hy t old hb hi hold h1 (h _ (setRow_heap w b old cells t (0, 0) hb)
    ⟨rfl, rfl, rfl, by simp [World.setRow], fun k _ hk => setRow_other w b k cells hk⟩)
/-- An empty slice is built. -/
theorem wpList_build0 {t e : TypeId} {z : Value} {size bytes : Nat} (T : SliceT P t e z size bytes) (hgd : o.guard = none) (ho : o.op = .buildSlice t 0 #[])
    (h : ∀ v w', Ext w w' → w'.ownsRow w.heap.size e size v 0 [] → wpList P ops Q rest (a.put o.dst v) w') : wpList P ops Q (o :: rest) a w := by
  obtain ⟨ht, hinfo, hzs, hpos, hbyt⟩ := T
  obtain ⟨i, hi, hp⟩ := Option.map_eq_some_iff.1 hinfo
  simp only [Prod.mk.injEq] at hp
  obtain ⟨hz, hsz, hby⟩ := hp
  refine wpList_plain hgd fun K hK => ?_
  unfold Oper.wp execOp
  have hr : (Instr.buildSlice t 0 #[]).run P w = .ok (.slice (some ⟨w.heap.size, 0, none⟩) 0 0) (w.alloc (.cells #[] e)) := by
    simp [Instr.buildSlice, run_underlying ht, sizeOf, typeInfo, hi, Instr.fill, newRow]
    have : Array.range 0 = #[] := by simp
    rw [this]; simp
  simp only [ho, Sem.run_bind, Array.map_empty, hr, Result.andThen_ok]
  refine hK _ _ (h _ _ (ext_lit w _ _) ⟨by simp, .inr ⟨w.heap.size, 0, #[], rfl, Nat.le_refl _, heap_alloc_new w _, Nat.le_refl _, Nat.zero_le _, by simp, by simp⟩⟩)
end

section
variable {P : Program} {w : World} {ops : Array Oper} {rest : List Oper} {o : Oper} {a : Act} {Q : Exit → Act → World → Prop} {K : Act → World → Prop} {E : Prop}
/-- A struct's block is made, in a region that draws. -/
theorem step_allocA (hgd : o.guard = none) {t : TypeId} (ho : o.op = .alloc t) {cs : Array Value} (hz : ∀ w : World, (zeroValue t).run P w = .ok (.agg cs) w)
    (h : ∀ b w1, Blk w1 b cs t → Ext w w1 → w.heap.size ≤ b → K (a.put o.dst (.pointer (some ⟨b, 0, none⟩))) w1) :
    if Region.wanted o (yielded ops a.tmps) = true then Oper.wp P o a w K Q else E := by
  have hw : Region.wanted o (yielded ops a.tmps) = true := by simp [Region.wanted, hgd]
  rw [if_pos hw]
  have hr : (execOp a.eval o).run P w = .ok (.value (.pointer (some ⟨w.heap.size, 0, none⟩))) (w.alloc (.cells cs t)) := by
    unfold execOp; rw [ho]; simp only [Instr.alloc, Sem.run_bind, hz, Result.andThen]; rfl
  unfold Oper.wp; rw [hr]
  exact h _ _ (newB w cs t).1 (newB w cs t).2.1 (newB w cs t).2.2
/-- A function is called, in a region that draws. -/
theorem step_call (hw : Region.wanted o (yielded ops a.tmps) = true) {f : FuncId} {fn : Func} {xs : Array Operand} {ats : Array TypeId} (ho : o.op = .call { callee := .value (.func f), args := xs, argTypes := ats }) {vs : Array Value} (hv2 : xs.toList.map a.eval = vs.toList)
    (hf : P.funcs[f]? = some fn) (hname : (fn.name == "runtime.NumGoroutine") = false) (hb : fn.body.isNone = false) {R : Ending → World → Prop} (hc : Calls P f vs w R)
    (h : ∀ e w', R e w' → ∃ v, e = .returned v ∧ K (a.put o.dst v) w') :
    if Region.wanted o (yielded ops a.tmps) = true then Oper.wp P o a w K Q else E := by
  rw [if_pos hw]
  have hv : xs.map a.eval = vs := by apply Array.toList_inj.1; rw [Array.toList_map]; exact hv2
  have ef : a.eval (.func f) = .func (.func f) #[] #[] := rfl
  have e1 : execOp a.eval o = callFunc f (xs.map a.eval) := by
    unfold execOp
    simp [ho, resolve, Deferred.ofValue, invoke, ef]
  have hr : (callFunc f vs).run P w = .ok (.enter f vs) w := by
    have h1 : fn.name ≠ "runtime.NumGoroutine" := by simpa using hname
    cases hbb : fn.body with
    | none => rw [hbb] at hb; cases hb
    | some c => simp [callFunc, hf, h1, hbb]
  unfold Oper.wp
  rw [e1, hv, hr, Oper.upon_enter]
  refine hc.mono fun e w' he => ?_
  obtain ⟨v, rfl, hk⟩ := h e w' he
  exact hk
/-- A struct is stored into a row of the call's own. -/
theorem wpList_set4 (hgd : o.guard = none) {ty : TypeId} {x y : Operand} (ho : o.op = .store ty x y) {b i : Nat} {v0 v1 v2 v3 : Value} {cs : Array Value} {t : TypeId}
    (hb : Blk w b cs t) (hx : a.eval x = .pointer (some ⟨b, i, none⟩)) (hy : a.eval y = .agg #[v0, v1, v2, v3]) (hlt : i + 4 ≤ cs.size) (hsz : (P.info? ty).map (·.size) = some 4)
    (h1 : [v0, v1, v2, v3].all (·.oneCell') = true)
    (h : ∀ w1 cs', Blk w1 b cs' t → cs'.size = cs.size → Only (fun k => k = b) w w1 → wpList P ops Q rest (a.put o.dst undef) w1) : wpList P ops Q (o :: rest) a w := by
  refine wpList_plain hgd fun K hK => ?_
  obtain ⟨inf, hinf, hs1⟩ := Option.map_eq_some_iff.1 hsz
  have hc : ∀ j, (w.cell? ⟨b, i + 0 + j, none⟩).isSome = decide (i + 0 + j < cs.size) := fun j => by
    rw [blk_cell hb]
    by_cases e : i + 0 + j < cs.size
    · rw [Array.getElem?_eq_getElem e, decide_eq_true e]; rfl
    · rw [Array.getElem?_eq_none (by omega), decide_eq_false e]; rfl
  have hst : (storeVar ty ⟨b, i, none⟩ (.agg #[v0, v1, v2, v3])).run P w = .ok () (w.setCells b (i + 0) [v0, v1, v2, v3]) := by
    have hs := run_storeCells_cells (P := P) b i [v0, v1, v2, v3] 0 w (fun j hj => by rw [hc]; have : j < 4 := hj
                                                                                      exact decide_eq_true (by omega)) (fun j hj => blk_free hb _) (fun v hv => List.all_eq_true.1 h1 v hv)
    simp [storeVar, sizeOf, typeInfo, hinf, hs1, Value.cells, hs]
  unfold Oper.wp execOp
  simp only [ho, hx, hy, Instr.storeAt, Instr.sureAddr, Sem.run_bind, Sem.run_pure, Result.andThen_ok, hst]
  refine hK _ _ (h _ ((((cs.setIfInBounds (i + 0) v0).setIfInBounds (i + 0 + 1) v1).setIfInBounds (i + 0 + 1 + 1) v2).setIfInBounds (i + 0 + 1 + 1 + 1) v3) ?_ (by simp) ?_)
  · exact blk_set (blk_set (blk_set (blk_set hb _ _) _ _) _ _) _ _
  · exact (((Only.set (S := fun k => k = b) w ⟨b, i + 0, none⟩ v0 rfl).tr (Only.set _ ⟨b, _, none⟩ v1 rfl)).tr (Only.set _ ⟨b, _, none⟩ v2 rfl)).tr (Only.set _ ⟨b, _, none⟩ v3 rfl)
end

theorem owns_form {w : World} {base : Nat} {e : TypeId} {size : Nat} {v : Value} {n : Nat} {xs : List Value} (h : w.ownsRow base e size v n xs) : ∃ a c, v = .slice a n c := by
  rcases h.2 with ⟨rfl, rfl⟩ | ⟨g, cap, cur, rfl, _⟩
  · exact ⟨_, _, rfl⟩
  · exact ⟨_, _, rfl⟩
theorem owns_pos {w : World} {base : Nat} {e : TypeId} {size : Nat} {v : Value} {n : Nat} {xs : List Value} (h : w.ownsRow base e size v n xs) (hn : 0 < n) : ∃ g c, v = .slice (some ⟨g, 0, none⟩) n c ∧ ∀ j u, xs[j]? = some u → w.cell? ⟨g, j, none⟩ = some u := by
  have h2 := h.2
  rcases h2 with ⟨rfl, rfl⟩ | ⟨g, cap, cur, rfl, _⟩
  · omega
  · refine ⟨g, cap, rfl, fun j u hj => ?_⟩
    have := h.cells rfl j u hj
    rwa [addr0 g j] at this

theorem owns_at {w : World} {base : Nat} {e : TypeId} {size : Nat} {v : Value} {n g c : Nat} {xs : List Value} (h : w.ownsRow base e size v n xs) (hv : v = .slice (some ⟨g, 0, none⟩) n c) : ∀ j u, xs[j]? = some u → w.cell? ⟨g, j, none⟩ = some u := by
  subst hv
  intro j u hj
  have := h.cells rfl j u hj
  rwa [addr0 g j] at this

theorem Only.then {S T : Nat → Prop} {a b c : World} (h : Only T a b) (k : Only S b c) (hS : ∀ k, k < a.heap.size → S k → T k) : Only T a c :=
  ⟨k.os.trans h.os, k.tape.trans h.tape, k.output.trans h.output, Nat.le_trans h.size k.size, fun i hi hs => (k.block i (Nat.lt_of_lt_of_le hi h.size) (fun hSi => hs (hS i hi hSi))).trans (h.block i hi hs)⟩
theorem one_get {v u : Value} {j : Nat} (h : [v][j]? = some u) : j = 0 ∧ v = u := by
  rcases j with _ | j
  · exact ⟨rfl, by simpa using h⟩
  · simp at h

/-- A row whose block has the role r. -/
def Row (ρ : Nat → Nat) (r : Nat) (w : World) (e : TypeId) (size : Nat) (v : Value) (n : Nat) (xs : List Value) : Prop :=
  w.ownsRow 0 e size v n xs ∧ ∀ b, v.ownBlock = some b → ρ b = r
theorem Row.only {ρ : Nat → Nat} {r : Nat} {w w' : World} {e : TypeId} {size n : Nat} {v : Value} {xs : List Value} {S : Nat → Prop} (h : Row ρ r w e size v n xs) (k : Only S w w') (hs : ∀ k, ρ k = r → ¬ S k) : Row ρ r w' e size v n xs :=
  ⟨owns_only h.1 k fun b hb => hs b (h.2 b hb), h.2⟩
theorem Row.role {ρ ρ' : Nat → Nat} {r : Nat} {w : World} {e : TypeId} {size n : Nat} {v : Value} {xs : List Value} (h : Row ρ r w e size v n xs) (hr : ∀ k, k < w.heap.size → ρ' k = ρ k) : Row ρ' r w e size v n xs :=
  ⟨h.1, fun b hb => (hr b (h.1.lt b hb).2).trans (h.2 b hb)⟩
theorem flat_get {f : Nat → List Value} {z : Nat} (hz : ∀ i, (f i).length = z) (n i j : Nat) (hi : i < n) (hj : j < z) : ((List.range n).flatMap f)[i * z + j]? = (f i)[j]? := by
  have hl : ∀ m, ((List.range m).flatMap f).length = m * z := by
    intro m
    induction m with
    | zero => simp
    | succ m ih => rw [List.range_succ, List.flatMap_append, List.length_append, ih, Nat.succ_mul]; simp [hz]
  induction n with
  | zero => omega
  | succ n ih =>
    rw [List.range_succ, List.flatMap_append]
    by_cases hin : i < n
    · have h1 : i * z + j < n * z := by
        have h2 : (i + 1) * z ≤ n * z := Nat.mul_le_mul_right z hin
        rw [Nat.succ_mul] at h2; omega
      rw [List.getElem?_append_left (by rw [hl]; exact h1)]
      exact ih hin
    · obtain rfl : i = n := by omega
      rw [List.getElem?_append_right (by rw [hl]; omega), hl]
      simp

def upd {α : Type} (f : Nat → α) (i : Nat) (x : α) : Nat → α := fun j => if j = i then x else f j
theorem upd_same {α : Type} (f : Nat → α) (i : Nat) (x : α) : upd f i x i = x := by simp [upd]
theorem upd_other {α : Type} (f : Nat → α) (i j : Nat) (x : α) (h : j ≠ i) : upd f i x j = f j := by simp [upd, h]

theorem flat_congr {α β : Type} {f g : α → List β} : ∀ {l : List α}, (∀ x ∈ l, f x = g x) → l.flatMap f = l.flatMap g := by
  intro l
  induction l with
  | nil => intro _; rfl
  | cons x l ih => intro h; simp only [List.flatMap_cons]; rw [h x (by simp), ih (fun y hy => h y (by simp [hy]))]
section
variable {w w' : World}
/-- A row of one's own as a block; one of its cells is another. -/
theorem owns_blk {B : Nat} {e : TypeId} {v : Value} {n : Nat} {xs : List Value} (h : w.ownsRow B e 1 v n xs) (hn : 0 < n) : ∃ g c cur, v = .slice (some ⟨g, 0, none⟩) n c ∧ Blk w g cur e ∧ n ≤ cur.size ∧ cur.toList.take n = xs := by
  obtain ⟨h1, h2⟩ := h
  rcases h2 with ⟨_, h0⟩ | ⟨g, c, cur, hv, _, hh, h3, _, h5, h6⟩
  · omega
  · exact ⟨g, c, cur, hv, hh, by omega, by simpa using h6⟩
theorem owns_put {B : Nat} {e : TypeId} {g c n i : Nat} {cur : Array Value} {u : Value} {xs : List Value} (h : w.ownsRow B e 1 (.slice (some ⟨g, 0, none⟩) n c) n xs) (hb : Blk w g cur e) (hb1 : Blk w' g (cur.setIfInBounds i u) e) :
    w'.ownsRow B e 1 (.slice (some ⟨g, 0, none⟩) n c) n (xs.set i u) := by
  obtain ⟨h1, h2⟩ := h
  refine ⟨by rw [List.length_set]; exact h1, ?_⟩
  rcases h2 with ⟨hv, _⟩ | ⟨g', c', cur', hv, h3, hh, h4, h5, h6, h7⟩
  · cases hv
  · cases hv
    have e1 : cur' = cur := by
      have := hh.symm.trans hb
      simp only [Option.some.injEq, Obj.cells.injEq] at this
      exact this.1
    subst e1
    refine .inr ⟨g, c, _, rfl, h3, hb1, h4, h5, by rw [Array.size_setIfInBounds]; exact h6, ?_⟩
    rw [Array.toList_setIfInBounds, List.take_set, h7]
theorem row_form {B : Nat} {e : TypeId} {size : Nat} {v : Value} {n : Nat} {xs : List Value} (h : w.ownsRow B e size v n xs) : ∃ a c, v = .slice a n c := by
  rcases h.2 with ⟨rfl, rfl⟩ | ⟨g, cap, cur, rfl, _⟩
  · exact ⟨_, _, rfl⟩
  · exact ⟨_, _, rfl⟩
theorem row_pos {B : Nat} {e : TypeId} {size : Nat} {v : Value} {n : Nat} {xs : List Value} (h : w.ownsRow B e size v n xs) (hn : 0 < n) : ∃ g c, v = .slice (some ⟨g, 0, none⟩) n c := by
  rcases h.2 with ⟨rfl, rfl⟩ | ⟨g, cap, cur, rfl, _⟩
  · omega
  · exact ⟨g, cap, rfl⟩
end
/-- A row that may be written. -/
def Room (w : World) (v : Value) (n size : Nat) : Prop := n = 0 ∨ ∃ g c cs t, v = .slice (some ⟨g, 0, none⟩) n c ∧ Blk w g cs t ∧ n * size ≤ cs.size
theorem Room.of_owns {w : World} {B : Nat} {e : TypeId} {size n : Nat} {v : Value} {xs : List Value} (h : w.ownsRow B e size v n xs) : Room w v n size := by
  rcases h.2 with ⟨_, h0⟩ | ⟨g, cap, cur, hv, _, hb, hc, _, hs, _⟩
  · exact .inl h0
  · exact .inr ⟨g, cap, cur, e, hv, hb, by rw [hs]; exact Nat.mul_le_mul_right _ hc⟩
theorem Room.only {w w' : World} {v : Value} {n size : Nat} {S : Nat → Prop} (h : Room w v n size) (k : Only S w w') (hs : ∀ b, v.ownBlock = some b → ¬ S b) : Room w' v n size := by
  rcases h with h | ⟨g, c, cs, t, hv, hb, hn⟩
  · exact .inl h
  · exact .inr ⟨g, c, cs, t, hv, hb.only k (hs g (by rw [hv]; rfl)), hn⟩
theorem Room.ext {w w' : World} {v : Value} {n size : Nat} (h : Room w v n size) (k : Ext w w') : Room w' v n size :=
  h.only (S := fun _ => False) (Only.of_ext k) fun _ _ h => h
/-- One of its blocks has been written. -/
theorem Room.put {w w' : World} {v : Value} {n size g : Nat} {cs cs' : Array Value} {t : TypeId} (h : Room w v n size) (hb : Blk w g cs t) (hb' : Blk w' g cs' t) (hz : cs'.size = cs.size) (k : Only (fun b => b = g) w w') : Room w' v n size := by
  rcases h with h | ⟨g2, c, cs2, t2, hv, hb2, hn⟩
  · exact .inl h
  · by_cases e : g2 = g
    · subst e
      have e2 : some (Obj.cells cs2 t2 (0, 0)) = some (Obj.cells cs t (0, 0)) := hb2.symm.trans hb
      cases e2
      exact .inr ⟨g2, c, cs', _, hv, hb', by omega⟩
    · exact .inr ⟨g2, c, cs2, t2, hv, hb2.only k e, hn⟩

theorem Src.ext {size m : Nat} {w w' : World} {y : Value} {news : List Value} (h : Src size w y m news) (k : Ext w w') : Src size w' y m news := by
  obtain ⟨h1, a, c, h2, h3, h4⟩ := h
  exact ⟨h1, a, c, h2, h3, fun ad e j u hj => k.cellSome (h4 ad e j u hj)⟩
end Go.Proofs.Ytekplfbfkfiabaa
