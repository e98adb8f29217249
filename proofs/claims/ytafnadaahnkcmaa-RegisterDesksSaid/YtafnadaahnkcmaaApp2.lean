/- Steps of a region that draws its order: a slice of one is built, one cell is stored; two rows beside each other are appended to. -/
import Derived.Test.YtafnadaahnkcmaaTail
import Derived.Test.YtafnadaahnkcmaaDesk1
import Derived.Great.BuildSlice
namespace Go.Proofs.Ytafnadaahnkcmaa
open Go.RowKit
set_option linter.unusedVariables false

section
variable {P : Program} {w : World} {ops : Array Oper} {o : Oper} {a : Act} {Q : Exit → Act → World → Prop} {K : Act → World → Prop} {E : Prop}
/-- A slice of one is built. -/
theorem step_build1 {t e : TypeId} {z : Value} {size bytes : Nat} (T : SliceT P t e z size bytes) (hgd : o.guard = none) {x : Operand} (ho : o.op = .buildSlice t 1 #[(0, x)]) {v : Value} (hx : a.eval x = v) (cs : List Value)
    (hsm : size ≤ 1000) (hv : v.cells.toList = cs) (hcs : cs.length = size)
    (h : ∀ b w', Ext w w' → w.heap.size ≤ b → b < w'.heap.size → (∀ j u, cs[j]? = some u → w'.cell? ⟨b, j, none⟩ = some u) → K (a.put o.dst (.slice (some ⟨b, 0, none⟩) 1 1)) w') :
    if Region.wanted o (yielded ops a.tmps) = true then Oper.wp P o a w K Q else E := by
  have hw : Region.wanted o (yielded ops a.tmps) = true := by simp [Region.wanted, hgd]
  rw [if_pos hw]
  obtain ⟨ht, hinfo, hzs, hpos, hbyt⟩ := T
  obtain ⟨i, hi, hp⟩ := Option.map_eq_some_iff.1 hinfo
  simp only [Prod.mk.injEq] at hp
  obtain ⟨hz, hsz, hby⟩ := hp
  refine wp_buildSlice t e 1 #[(0, x)] ho cs.toArray i z ht hi hz (by rw [hsz]; omega) (by rw [hsz]; omega) ?_ ?_
  · rw [hsz]
    have : (#[(0, x)].map fun ((i, x) : Nat × Operand) => (i, a.eval x)).toList = [(0, v)] := by simp [hx]
    rw [this]
    have h2 := Great.fill_whole (s := size) (by omega) [v] ((Array.range (1 * size)).map (z.cells[· % z.cells.size]!)) (fun u hu => by rw [List.mem_singleton.1 hu, ← Array.length_toList, hv, hcs]) (by simp)
    have h3 : ([v].flatMap fun v => v.cells.toList).toArray = cs.toArray := by simp [hv]
    rw [h3] at h2
    exact h2
  · exact h _ _ (ext_lit w _ _) (Nat.le_refl _) (by simp) (new_cells w cs e)
/-- One cell of a block of the call's own is stored. -/
theorem step_setK (hgd : o.guard = none) {ty : TypeId} {x y : Operand} (ho : o.op = .store ty x y) {b i : Nat} {v : Value} {cs : Array Value} {t : TypeId}
    (hb : Blk w b cs t) (hx : a.eval x = .pointer (some ⟨b, i, none⟩)) (hy : a.eval y = v) (hlt : i < cs.size) (hsz : (P.info? ty).map (·.size) = some 1)
    (hv : v.cells = #[v]) (h1 : v.oneCell' = true)
    (h : ∀ w1, w1 = w.setCell ⟨b, i, none⟩ v → Blk w1 b (cs.setIfInBounds i v) t → Only (fun k => k = b) w w1 → K (a.put o.dst undef) w1) :
    if Region.wanted o (yielded ops a.tmps) = true then Oper.wp P o a w K Q else E := by
  have hw : Region.wanted o (yielded ops a.tmps) = true := by simp [Region.wanted, hgd]
  rw [if_pos hw]
  obtain ⟨inf, hinf, hs1⟩ := Option.map_eq_some_iff.1 hsz
  have hc : (w.cell? ⟨b, i, none⟩).isSome = true := by rw [blk_cell hb]; simp [hlt]
  have hf := blk_free hb i
  obtain ⟨u, hu⟩ := Option.isSome_iff_exists.1 hc
  have hst : (storeVar ty ⟨b, i, none⟩ v).run P w = .ok () (w.setCell ⟨b, i, none⟩ v) := by
    have hs := run_storeCells_cells (P := P) b i [v] 0 w (fun j hj => by have : j = 0 := by simpa using hj
                                                                         subst this; simpa using hc) (fun j hj => by have : j = 0 := by simpa using hj
                                                                                                                     subst this; simpa using hf) (by simpa using h1)
    simp [storeVar, sizeOf, typeInfo, hinf, hv, hs1, hs, World.setCells]
  unfold Oper.wp execOp
  simp only [ho, hx, hy, Instr.storeAt, Instr.sureAddr, Sem.run_bind, Sem.run_pure, Result.andThen_ok, hst]
  exact h _ rfl (blk_set hb i v) (Only.set _ _ _ rfl)
end

theorem app_carry {W wX w10 : World} {v : Value} (hx : Ext W wX) (hgr : wX.grownBy w10 v.ownBlock) : Only (fun b => v.ownBlock = some b) W w10 :=
  (Only.of_ext hx).tr (only_grown hgr)
theorem fresh_own {wX : World} {v v' : Value} {B : Nat} (hf : FreshOr wX v v') (hB : B ≤ wX.heap.size) : ∀ b, v'.ownBlock = some b → v.ownBlock = some b ∨ B ≤ b := fun b hb => by
  rcases hf with hf | ⟨c, hc, hle⟩
  · exact .inl (hf ▸ hb)
  · rw [hc] at hb; cases hb; exact .inr (Nat.le_trans hB hle)
theorem ap_next {wX : World} {v1 v1' v2 v2' : Value} {B : Nat} (h1 : ∀ b, v1'.ownBlock = some b → v1.ownBlock = some b ∨ B ≤ b) (hlt : ∀ b, v1'.ownBlock = some b → b < wX.heap.size) (hf : FreshOr wX v2 v2') (h2 : ∀ b, v2.ownBlock = some b → b < B)
    (dj : ∀ b, v1.ownBlock = some b → v2.ownBlock = some b → False) : ∀ b, v1'.ownBlock = some b → v2'.ownBlock = some b → False := fun b hb hb2 => by
  rcases hf with hf | ⟨c, hc, hle⟩
  · rw [hf] at hb2
    rcases h1 b hb with h | h
    · exact dj b h hb2
    · have := h2 b hb2; omega
  · rw [hc] at hb2; cases hb2; have := hlt _ hb; omega

/-- Two rows of numbers, of which one or both have grown since the world w0; and a block that is apart from both. -/
structure App2 (w0 W : World) (B cb : Nat) (cs : Array Value) (t : TypeId) (v1 v2 p1 p2 : Value) (n1 n2 : Nat) (x1 x2 : List Value) : Prop where
  ble : B ≤ w0.heap.size
  cbl : cb < B
  cbk : Blk W cb cs t
  only : Only (fun b => v1.ownBlock = some b ∨ v2.ownBlock = some b) w0 W
  r1 : W.ownsRow B 3 1 p1 n1 x1
  r2 : W.ownsRow B 3 1 p2 n2 x2
  f1 : ∀ b, p1.ownBlock = some b → v1.ownBlock = some b ∨ w0.heap.size ≤ b
  f2 : ∀ b, p2.ownBlock = some b → v2.ownBlock = some b ∨ w0.heap.size ≤ b
  dj : ∀ b, p1.ownBlock = some b → p2.ownBlock = some b → False
  d0 : ∀ b, v1.ownBlock = some b → v2.ownBlock = some b → False
  l1 : ∀ b, v1.ownBlock = some b → B ≤ b ∧ b < w0.heap.size
  l2 : ∀ b, v2.ownBlock = some b → B ≤ b ∧ b < w0.heap.size

section
variable {w0 W : World} {B cb : Nat} {cs : Array Value} {t : TypeId} {v1 v2 p1 p2 : Value} {n1 n2 : Nat} {x1 x2 : List Value}
theorem App2.start (hB : B ≤ w0.heap.size) (hcb : cb < B) (hk : Blk w0 cb cs t) (h1 : w0.ownsRow B 3 1 v1 n1 x1) (h2 : w0.ownsRow B 3 1 v2 n2 x2) (hd : v1.ownBlock = v2.ownBlock → v1.ownBlock = none) : App2 w0 w0 B cb cs t v1 v2 v1 v2 n1 n2 x1 x2 :=
  have d : ∀ b, v1.ownBlock = some b → v2.ownBlock = some b → False := fun b h1 h2 => by rw [hd (h1.trans h2.symm)] at h1; cases h1
  ⟨hB, hcb, hk, Only.refl _ _, h1, h2, fun _ h => .inl h, fun _ h => .inl h, d, d, fun b h => h1.lt b h, fun b h => h2.lt b h⟩
theorem App2.ext {W' : World} (h : App2 w0 W B cb cs t v1 v2 p1 p2 n1 n2 x1 x2) (hx : Ext W W') : App2 w0 W' B cb cs t v1 v2 p1 p2 n1 n2 x1 x2 :=
  { h with cbk := h.cbk.ext hx, only := h.only.tr (Only.of_ext hx), r1 := owns_ext h.r1 hx, r2 := owns_ext h.r2 hx }
/-- The first row has grown. -/
theorem App2.app1 {w' : World} {p' : Value} {n' : Nat} {x' : List Value} (h : App2 w0 W B cb cs t v1 v2 v1 p2 n1 n2 x1 x2) (ho : w'.ownsRow B 3 1 p' n' x') (hg : W.grownBy w' v1.ownBlock) (hf : FreshOr W v1 p') :
    App2 w0 w' B cb cs t v1 v2 p' p2 n' n2 x' x2 :=
  have k : Only (fun b => v1.ownBlock = some b) W w' := only_grown hg
  have s := h.only.size
  { h with
    cbk := h.cbk.only k (fun e => by have := h.l1 cb e; have := h.cbl; omega)
    only := h.only.tr (k.weak fun b _ e => .inl e)
    r1 := ho
    r2 := owns_only h.r2 k fun b hb e => h.dj b e hb
    f1 := fresh_own hf s
    dj := fun b hb hb2 => ap_next (v1 := v2) (v2 := v1) h.f2 (fun b hb => (h.r2.lt b hb).2) hf (fun b hb => (h.l1 b hb).2) (fun b h1 h2 => h.d0 b h2 h1) b hb2 hb }
theorem App2.app2 {w' : World} {p' : Value} {n' : Nat} {x' : List Value} (h : App2 w0 W B cb cs t v1 v2 p1 v2 n1 n2 x1 x2) (ho : w'.ownsRow B 3 1 p' n' x') (hg : W.grownBy w' v2.ownBlock) (hf : FreshOr W v2 p') :
    App2 w0 w' B cb cs t v1 v2 p1 p' n1 n' x1 x' :=
  have k : Only (fun b => v2.ownBlock = some b) W w' := only_grown hg
  have s := h.only.size
  { h with
    cbk := h.cbk.only k (fun e => by have := h.l2 cb e; have := h.cbl; omega)
    only := h.only.tr (k.weak fun b _ e => .inr e)
    r1 := owns_only h.r1 k fun b hb e => h.dj b hb e
    r2 := ho
    f2 := fresh_own hf s
    dj := fun b hb hb2 => ap_next (v1 := v1) (v2 := v2) h.f1 (fun b hb => (h.r1.lt b hb).2) hf (fun b hb => (h.l2 b hb).2) h.d0 b hb hb2 }
/-- A block that neither row has: a literal's. -/
theorem App2.lit1 {w' : World} (h : App2 w0 W B cb cs t v1 v2 p1 p2 n1 n2 x1 x2) (hg : W.grownBy w' v1.ownBlock) {nb : Nat} (hnb : w0.heap.size ≤ nb) {ys : List Value} (hy : ∀ j u, ys[j]? = some u → W.cell? ⟨nb, j, none⟩ = some u) :
    ∀ j u, ys[j]? = some u → w'.cell? ⟨nb, j, none⟩ = some u := fun j u hj =>
  (only_grown hg).cell (hy j u hj) (fun e => by have := (h.l1 nb e).2; omega)
theorem App2.lit2 {w' : World} (h : App2 w0 W B cb cs t v1 v2 p1 p2 n1 n2 x1 x2) (hg : W.grownBy w' v2.ownBlock) {nb : Nat} (hnb : w0.heap.size ≤ nb) {ys : List Value} (hy : ∀ j u, ys[j]? = some u → W.cell? ⟨nb, j, none⟩ = some u) :
    ∀ j u, ys[j]? = some u → w'.cell? ⟨nb, j, none⟩ = some u := fun j u hj =>
  (only_grown hg).cell (hy j u hj) (fun e => by have := (h.l2 nb e).2; omega)
end
end Go.Proofs.Ytafnadaahnkcmaa
