/- Steps of walks and facts on rows that no statement owns (gathered from the first seat's texts). A slice literal of any number of elements. -/
import Derived.Test.YtojobdffnnibaaaGreatKit
import Derived.Test.YtojobdffnnibaaaGreatTail
import Derived.Great.BuildSlice
import Derived.Deep.DeepCutAuto
namespace Go.Proofs.YtojobdffnnibaaaGreat
open Go.RowKit
set_option linter.unusedVariables false
set_option linter.unusedSimpArgs false
section
variable {P : Program} {w : World} {ops : Array Oper} {o : Oper} {a : Act} {Q : Exit → Act → World → Prop} {K : Act → World → Prop} {E : Prop}
theorem step_build1 {t e : TypeId} {z : Value} {size bytes : Nat} (T : SliceT P t e z size bytes) (hgd : o.guard = none) {x : Operand} (ho : o.op = .buildSlice t 1 #[(0, x)]) {v : Value} (hx : a.eval x = v) (cs : List Value)
 (hsm : size ≤ 1000) (hv : v.cells.toList = cs) (hcs : cs.length = size)
 (h : ∀ b w', Ext w w' → w.heap.size ≤ b → b < w'.heap.size → (∀ j u, cs[j]? = some u → w'.cell? ⟨b, j, none⟩ = some u) → K (a.put o.dst (.slice (some ⟨b, 0, none⟩) 1 1)) w') :
 if Region.wanted o (yielded ops a.tmps) = true then Oper.wp P o a w K Q else E := by
 have hw : Region.wanted o (yielded ops a.tmps) = true := (by simp [Region.wanted, hgd]); rw [if_pos hw]; obtain ⟨ht, hinfo, hzs, hpos, hbyt⟩ := T; obtain ⟨i, hi, hp⟩ := Option.map_eq_some_iff.1 hinfo; simp only [Prod.mk.injEq] at hp; obtain ⟨hz, hsz, hby⟩ := hp; refine wp_buildSlice t e 1 #[(0, x)] ho cs.toArray i z ht hi hz (by rw [hsz]; omega) (by rw [hsz]; omega) ?_ ?_
 { rw [hsz]; have : (#[(0, x)].map fun ((i, x) : Nat × Operand) => (i, a.eval x)).toList = [(0, v)] := (by simp [hx]); rw [this]; have h2 := Great.fill_whole (s := size) (by omega) [v] ((Array.range (1 * size)).map (z.cells[· % z.cells.size]!)) (fun u hu => by rw [List.mem_singleton.1 hu, ← Array.length_toList, hv, hcs]) (by simp); have h3 : ([v].flatMap fun v => v.cells.toList).toArray = cs.toArray := (by simp [hv]); rw [h3] at h2; exact h2 }
 · exact h _ _ (ext_lit w _ _) (Nat.le_refl _) (by simp) (new_cells w cs e)
end
section
variable {P : Program} {w : World} {ops : Array Oper} {rest : List Oper} {o : Oper} {a : Act} {Q : Exit → Act → World → Prop} {K : Act → World → Prop} {E : Prop}
theorem step_storeK (hgd : o.guard = none) {ty : TypeId} {x y : Operand} (ho : o.op = .store ty x y) {b : Nat} {cells old : Array Value} {t : TypeId}
 (hb : Blk w b old t) (hx : a.eval x = .pointer (some ⟨b, 0, none⟩)) (hy : a.eval y = .agg cells) (hi : (P.info? ty).map (·.size) = some cells.size)
 (hold : old.size = cells.size) (h1 : cells.all (·.oneCell') = true)
 (h : ∀ w1, Blk w1 b cells t → Only (fun k => k = b) w w1 → K (a.put o.dst undef) w1) :
 if Region.wanted o (yielded ops a.tmps) = true then Oper.wp P o a w K Q else E := by
 have hw : Region.wanted o (yielded ops a.tmps) = true := (by simp [Region.wanted, hgd]); rw [if_pos hw]
 exact wp_store_row ty x y ho b cells hx hy t old hb hi hold h1 (h _ (setRow_heap w b old cells t (0, 0) hb)
  ⟨rfl, rfl, rfl, by simp [World.setRow], fun k _ hk => setRow_other w b k cells hk⟩)
theorem wpList_build0 {t e : TypeId} {z : Value} {size bytes : Nat} (T : SliceT P t e z size bytes) (hgd : o.guard = none) (ho : o.op = .buildSlice t 0 #[])
 (h : ∀ v w', Ext w w' → w'.ownsRow w.heap.size e size v 0 [] → wpList P ops Q rest (a.put o.dst v) w') : wpList P ops Q (o :: rest) a w := by
 obtain ⟨ht, hinfo, hzs, hpos, hbyt⟩ := T; obtain ⟨i, hi, hp⟩ := Option.map_eq_some_iff.1 hinfo; simp only [Prod.mk.injEq] at hp; obtain ⟨hz, hsz, hby⟩ := hp; refine wpList_plain hgd fun K hK => ?_; unfold Oper.wp execOp
 have hr : (Instr.buildSlice t 0 #[]).run P w = .ok (.slice (some ⟨w.heap.size, 0, none⟩) 0 0) (w.alloc (.cells #[] e)) := by
  simp [Instr.buildSlice, run_underlying ht, sizeOf, typeInfo, hi, Instr.fill, newRow]; have : Array.range 0 = #[] := (by simp); rw [this]; simp
 simp only [ho, Sem.run_bind, Array.map_empty, hr, Result.andThen_ok]; refine hK _ _ (h _ _ (ext_lit w _ _) ⟨by simp, .inr ⟨w.heap.size, 0, #[], rfl, Nat.le_refl _, heap_alloc_new w _, Nat.le_refl _, Nat.zero_le _, by simp, by simp⟩⟩)
end
section
variable {P : Program} {w : World} {ops : Array Oper} {rest : List Oper} {o : Oper} {a : Act} {Q : Exit → Act → World → Prop} {K : Act → World → Prop} {E : Prop}
theorem step_allocA (hgd : o.guard = none) {t : TypeId} (ho : o.op = .alloc t) {cs : Array Value} (hz : ∀ w : World, (zeroValue t).run P w = .ok (.agg cs) w)
 (h : ∀ b w1, Blk w1 b cs t → Ext w w1 → w.heap.size ≤ b → K (a.put o.dst (.pointer (some ⟨b, 0, none⟩))) w1) :
 if Region.wanted o (yielded ops a.tmps) = true then Oper.wp P o a w K Q else E := by
 have hw : Region.wanted o (yielded ops a.tmps) = true := (by simp [Region.wanted, hgd]); rw [if_pos hw]
 have hr : (execOp a.eval o).run P w = .ok (.value (.pointer (some ⟨w.heap.size, 0, none⟩))) (w.alloc (.cells cs t)) := by
  unfold execOp; rw [ho]; simp only [Instr.alloc, Sem.run_bind, hz, Result.andThen]; rfl
 unfold Oper.wp; rw [hr]; exact h _ _ (newB w cs t).1 (newB w cs t).2.1 (newB w cs t).2.2
theorem step_call (hw : Region.wanted o (yielded ops a.tmps) = true) {f : FuncId} {fn : Func} {xs : Array Operand} {ats : Array TypeId} (ho : o.op = .call { callee := .value (.func f), args := xs, argTypes := ats }) {vs : Array Value} (hv2 : xs.toList.map a.eval = vs.toList)
 (hf : P.funcs[f]? = some fn) (hname : (fn.name == "runtime.NumGoroutine") = false) (hb : fn.body.isNone = false) {R : Ending → World → Prop} (hc : Calls P f vs w R)
 (h : ∀ e w', R e w' → ∃ v, e = .returned v ∧ K (a.put o.dst v) w') :
 if Region.wanted o (yielded ops a.tmps) = true then Oper.wp P o a w K Q else E := by
 rw [if_pos hw]; have hv : xs.map a.eval = vs := (by apply Array.toList_inj.1; rw [Array.toList_map]; exact hv2); have ef : a.eval (.func f) = .func (.func f) #[] #[] := rfl
 have e1 : execOp a.eval o = callFunc f (xs.map a.eval) := by
  unfold execOp; simp [ho, resolve, Deferred.ofValue, invoke, ef]
 have hr : (callFunc f vs).run P w = .ok (.enter f vs) w := by
  have h1 : fn.name ≠ "runtime.NumGoroutine" := by simpa using hname
  cases hbb : fn.body with
  | none => rw [hbb] at hb; cases hb
  | some c => simp [callFunc, hf, h1, hbb]
 unfold Oper.wp; rw [e1, hv, hr, Oper.upon_enter]; refine hc.mono fun e w' he => ?_; obtain ⟨v, rfl, hk⟩ := h e w' he; exact hk
theorem cK (vs : Array Value) {f : FuncId} {fn : Func} {xs : Array Operand} {ats : Array TypeId} (hf : P.funcs[f]? = some fn) {R : Ending → World → Prop} (hc : Calls P f vs w R)
 (h : ∀ e w', R e w' → ∃ v, e = .returned v ∧ K (a.put o.dst v) w') (hw : Region.wanted o (yielded ops a.tmps) = true := by rfl)
 (ho : o.op = .call { callee := .value (.func f), args := xs, argTypes := ats } := by rfl) (hv2 : xs.toList.map a.eval = vs.toList := by rfl) (hname : (fn.name == "runtime.NumGoroutine") = false := by kernel_rfl) (hb : fn.body.isNone = false := by kernel_rfl) :
 if Region.wanted o (yielded ops a.tmps) = true then Oper.wp P o a w K Q else E :=
 step_call hw ho hv2 hf hname hb hc h
theorem sK (cells : Array Value) {ty : TypeId} {x y : Operand} {b : Nat} {old : Array Value} {t : TypeId} (hb : Blk w b old t)
 (h : ∀ w1, Blk w1 b cells t → Only (fun k => k = b) w w1 → K (a.put o.dst undef) w1) (hgd : o.guard = none := by rfl) (ho : o.op = .store ty x y := by rfl) (hx : a.eval x = .pointer (some ⟨b, 0, none⟩) := by rfl) (hy : a.eval y = .agg cells := by rfl)
 (hi : (P.info? ty).map (·.size) = some cells.size := by kernel_rfl) (hold : old.size = cells.size := by rfl) (h1 : cells.all (·.oneCell') = true := by simp [Value.oneCell']) :
 if Region.wanted o (yielded ops a.tmps) = true then Oper.wp P o a w K Q else E :=
 step_storeK hgd ho hb hx hy hi hold h1 h
end
theorem owns_form {w : World} {base : Nat} {e : TypeId} {size : Nat} {v : Value} {n : Nat} {xs : List Value} (h : w.ownsRow base e size v n xs) : ∃ a c, v = .slice a n c := by
 rcases h.2 with ⟨rfl, rfl⟩ | ⟨g, cap, cur, rfl, _⟩
 · exact ⟨_, _, rfl⟩
 · exact ⟨_, _, rfl⟩
theorem owns_pos {w : World} {base : Nat} {e : TypeId} {size : Nat} {v : Value} {n : Nat} {xs : List Value} (h : w.ownsRow base e size v n xs) (hn : 0 < n) : ∃ g c, v = .slice (some ⟨g, 0, none⟩) n c ∧ ∀ j u, xs[j]? = some u → w.cell? ⟨g, j, none⟩ = some u := by
 have h2 := h.2
 rcases h2 with ⟨rfl, rfl⟩ | ⟨g, cap, cur, rfl, _⟩
 omega
 {
 refine ⟨g, cap, rfl, fun j u hj => ?_⟩; have := h.cells rfl j u hj
 rwa [addr0 g j] at this
 }
theorem owns_at {w : World} {base : Nat} {e : TypeId} {size : Nat} {v : Value} {n g c : Nat} {xs : List Value} (h : w.ownsRow base e size v n xs) (hv : v = .slice (some ⟨g, 0, none⟩) n c) : ∀ j u, xs[j]? = some u → w.cell? ⟨g, j, none⟩ = some u := by
 subst hv; intro j u hj; have := h.cells rfl j u hj
 rwa [addr0 g j] at this
theorem Only.then {S T : Nat → Prop} {a b c : World} (h : Only T a b) (k : Only S b c) (hS : ∀ k, k < a.heap.size → S k → T k) : Only T a c :=
 ⟨k.os.trans h.os, k.tape.trans h.tape, k.output.trans h.output, Nat.le_trans h.size k.size, fun i hi hs => (k.block i (Nat.lt_of_lt_of_le hi h.size) (fun hSi => hs (hS i hi hSi))).trans (h.block i hi hs)⟩
/-- A row whose block has the role r. -/
def Row (ρ : Nat → Nat) (r : Nat) (w : World) (e : TypeId) (size : Nat) (v : Value) (n : Nat) (xs : List Value) : Prop :=
 w.ownsRow 0 e size v n xs ∧ ∀ b, v.ownBlock = some b → ρ b = r
theorem flat_get {f : Nat → List Value} {z : Nat} (hz : ∀ i, (f i).length = z) (n i j : Nat) (hi : i < n) (hj : j < z) : ((List.range n).flatMap f)[i * z + j]? = (f i)[j]? := by
 have hl : ∀ m, ((List.range m).flatMap f).length = m * z := by
  intro m
  induction m with
  | zero => simp
  | succ m ih => rw [List.range_succ, List.flatMap_append, List.length_append, ih, Nat.succ_mul]; simp [hz]
 induction n with
 | zero => omega
 | succ n ih =>
   rw [List.range_succ, List.flatMap_append]
   by_cases hin : i < n
   {
   have h1 : i * z + j < n * z := by
    have h2 : (i + 1) * z ≤ n * z := Nat.mul_le_mul_right z hin; rw [Nat.succ_mul] at h2; omega
   rw [List.getElem?_append_left (by rw [hl]; exact h1)]; exact ih hin
   }
   { obtain rfl : i = n := (by omega); rw [List.getElem?_append_right (by rw [hl]; omega), hl]; simp }
def upd {α : Type} (f : Nat → α) (i : Nat) (x : α) : Nat → α := fun j => if j = i then x else f j
theorem upd_same {α : Type} (f : Nat → α) (i : Nat) (x : α) : upd f i x i = x := by simp [upd]
theorem upd_other {α : Type} (f : Nat → α) (i j : Nat) (x : α) (h : j ≠ i) : upd f i x j = f j := by simp [upd, h]
theorem flat_congr {α β : Type} {f g : α → List β} : ∀ {l : List α}, (∀ x ∈ l, f x = g x) → l.flatMap f = l.flatMap g := by
 intro l
 induction l with
 | nil => intro _; rfl
 | cons x l ih => intro h; simp only [List.flatMap_cons]; rw [h x (by simp), ih (fun y hy => h y (by simp [hy]))]
section
variable {w w' : World}
theorem row_form {B : Nat} {e : TypeId} {size : Nat} {v : Value} {n : Nat} {xs : List Value} (h : w.ownsRow B e size v n xs) : ∃ a c, v = .slice a n c := by
 rcases h.2 with ⟨rfl, rfl⟩ | ⟨g, cap, cur, rfl, _⟩
 · exact ⟨_, _, rfl⟩
 · exact ⟨_, _, rfl⟩
theorem row_pos {B : Nat} {e : TypeId} {size : Nat} {v : Value} {n : Nat} {xs : List Value} (h : w.ownsRow B e size v n xs) (hn : 0 < n) : ∃ g c, v = .slice (some ⟨g, 0, none⟩) n c := by
 rcases h.2 with ⟨rfl, rfl⟩ | ⟨g, cap, cur, rfl, _⟩
 omega
 · exact ⟨g, cap, rfl⟩
end
/-- A row that may be written. -/
def Room (w : World) (v : Value) (n size : Nat) : Prop := n = 0 ∨ ∃ g c cs t, v = .slice (some ⟨g, 0, none⟩) n c ∧ Blk w g cs t ∧ n * size ≤ cs.size
theorem shareH {G T : Prop} (h : Hid T → G) (hT : T) : G := h (Hd hT)
section
variable {P : Program} {w : World} {ops : Array Oper} {rest : List Oper} {o : Oper} {a : Act} {Q : Exit → Act → World → Prop} {K : Act → World → Prop} {E : Prop}
theorem wp_buildN {t e : TypeId} {z : Value} {size bytes : Nat} (T : SliceT P t e z size bytes) {n : Nat} {es : List (Nat × Operand)} (ho : o.op = .buildSlice t n es.toArray) (vs : List Value)
 (hev : (es.map fun ((i, x) : Nat × Operand) => (i, a.eval x)) = (vs.zipIdx 0).map fun x => (x.2, x.1)) (hlen : vs.length = n) (hs : ∀ v ∈ vs, v.cells.size = size) (cs : List Value) (hcs : vs.flatMap (fun v => v.cells.toList) = cs) (h0 : 0 < n) (hsm : n * size ≤ 1000000)
 (h : ∀ v w', Ext w w' → w'.ownsRow w.heap.size e size v n cs → K (a.put o.dst v) w') : Oper.wp P o a w K Q := by
 obtain ⟨ht, hinfo, hzs, hpos, hbyt⟩ := T; obtain ⟨i, hi, hp⟩ := Option.map_eq_some_iff.1 hinfo; simp only [Prod.mk.injEq] at hp; obtain ⟨hz, hsz, hby⟩ := hp; have hmul : 0 < n * size := Nat.mul_pos h0 hpos; have hsn : n ≤ n * size := Nat.le_mul_of_pos_right n hpos
 have hcl : cs.length = n * size := by
  rw [← hcs, ← hlen]; clear hcs hev hlen hsm h hmul hsn ho h0
  induction vs with
  | nil => simp
  | cons v vs ih =>
    rw [List.flatMap_cons, List.length_append, ih (fun u hu => hs u (List.mem_cons_of_mem _ hu)), Array.length_toList, hs v List.mem_cons_self, List.length_cons, Nat.succ_mul]; omega
 refine wp_buildSlice t e n es.toArray ho cs.toArray i z ht hi hz (by rw [hsz]; omega) (by rw [hsz]; omega) ?_ ?_
 { rw [hsz]; have hev2 : (es.toArray.map fun ((i, x) : Nat × Operand) => (i, a.eval x)).toList = (vs.zipIdx 0).map fun x => (x.2, x.1) := (by rw [← hev]; simp); rw [hev2]; have h5 := Great.fill_whole (s := size) hpos vs ((Array.range (n * size)).map (z.cells[· % z.cells.size]!)) hs (by simp [hlen]); rw [hcs] at h5; exact h5 }
 { refine h _ _ (ext_lit w _ _) ⟨hcl, .inr ⟨w.heap.size, n, cs.toArray, rfl, Nat.le_refl _, heap_alloc_new w _, Nat.le_refl _, ?_, by rw [List.size_toArray]; exact hcl, by rw [← hcl]; simp⟩⟩; unfold maxLen; omega }
theorem wpList_buildN {t e : TypeId} {z : Value} {size bytes : Nat} (T : SliceT P t e z size bytes) (hgd : o.guard = none) {n : Nat} {es : List (Nat × Operand)} (ho : o.op = .buildSlice t n es.toArray) (vs : List Value)
 (hev : (es.map fun ((i, x) : Nat × Operand) => (i, a.eval x)) = (vs.zipIdx 0).map fun x => (x.2, x.1)) (hlen : vs.length = n) (hs : ∀ v ∈ vs, v.cells.size = size) (cs : List Value) (hcs : vs.flatMap (fun v => v.cells.toList) = cs) (h0 : 0 < n) (hsm : n * size ≤ 1000000)
 (h : ∀ v w', Ext w w' → w'.ownsRow w.heap.size e size v n cs → wpList P ops Q rest (a.put o.dst v) w') : wpList P ops Q (o :: rest) a w := by
 refine wpList_plain hgd fun K hK => ?_; exact wp_buildN T ho vs hev hlen hs cs hcs h0 hsm fun v w' h1 h2 => hK _ _ (h v w' h1 h2)
theorem step_buildN {t e : TypeId} {z : Value} {size bytes : Nat} (T : SliceT P t e z size bytes) (hgd : o.guard = none) {n : Nat} {es : List (Nat × Operand)} (ho : o.op = .buildSlice t n es.toArray) (vs : List Value)
 (hev : (es.map fun ((i, x) : Nat × Operand) => (i, a.eval x)) = (vs.zipIdx 0).map fun x => (x.2, x.1)) (hlen : vs.length = n) (hs : ∀ v ∈ vs, v.cells.size = size) (cs : List Value) (hcs : vs.flatMap (fun v => v.cells.toList) = cs) (h0 : 0 < n) (hsm : n * size ≤ 1000000)
 (h : ∀ v w', Ext w w' → w'.ownsRow w.heap.size e size v n cs → K (a.put o.dst v) w') : if Region.wanted o (yielded ops a.tmps) = true then Oper.wp P o a w K Q else E := by
 have hw : Region.wanted o (yielded ops a.tmps) = true := (by simp [Region.wanted, hgd]); rw [if_pos hw]; exact wp_buildN T ho vs hev hlen hs cs hcs h0 hsm h
theorem step_makeW {t e : TypeId} {z : Value} {size bytes : Nat} (T : SliceT P t e z size bytes) (hw : Region.wanted o (yielded ops a.tmps) = true) {x y : Operand} (ho : o.op = .makeSlice t x y) {n : Nat}
 (hx : a.eval x = .int .i64 n) (hy : a.eval y = .int .i64 n) (hN : bytes * n ≤ 140737488355328)
 (h : ∀ w1, w1.ownsRow w.heap.size e size (.slice (some ⟨w.heap.size, 0, none⟩) n n) n (madeCells z.cells (n * size)).toList → Ext w w1 → K (a.put o.dst (.slice (some ⟨w.heap.size, 0, none⟩) n n)) w1) :
 if Region.wanted o (yielded ops a.tmps) = true then Oper.wp P o a w K Q else E := by
 rw [if_pos hw]; obtain ⟨i, hi, hp⟩ := Option.map_eq_some_iff.1 T.info; simp only [Prod.mk.injEq] at hp; obtain ⟨hz, hsz, hby⟩ := hp
 have hm : n ≤ maxLen := by
  have := Nat.le_mul_of_pos_left n T.byt; unfold maxLen; omega
 obtain ⟨w', hrun, r1, r2⟩ := run_make_full (P := P) w w.heap.size t e i z size T.ht hi hz hsz .i64 .i64 n (by rw [hby]; omega) hm (Nat.le_refl _); unfold Oper.wp; simp [execOp, ho, hx, hy, hrun, Result.andThen]; exact h w' r1 (Ext.only (only_grown (v := .slice none 0 0) r2) (fun b hb => by cases hb))
end
end Go.Proofs.YtojobdffnnibaaaGreat