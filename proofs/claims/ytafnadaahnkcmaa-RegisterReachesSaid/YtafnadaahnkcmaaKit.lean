/- More small facts that later walks of this seat share: blocks of the call's own, in one word. -/
import Derived.Test.YtafnadaahnkcmaaBase
import Derived.Laws.Rows
import Derived.Deep.Cut
import Derived.Outline
import Derived.Deep.OwnRows
namespace Go.Proofs.Ytafnadaahnkcmaa
open Go.RowKit
set_option linter.unusedVariables false

theorem Ext.ext {a b c : World} (h : Ext a b) (k : Ext b c) : Ext a c := h.tr k

/-- Block b holds these cells, and may be written. -/
def Blk (w : World) (b : Nat) (cs : Array Value) (t : TypeId) : Prop := w.heap[b]? = some (.cells cs t (0, 0))
theorem Blk.ext {w w' : World} {b : Nat} {cs : Array Value} {t : TypeId} (h : Blk w b cs t) (k : Ext w w') : Blk w' b cs t := k.blk h
theorem Blk.cell {w : World} {b : Nat} {cs : Array Value} {t : TypeId} (h : Blk w b cs t) : ∀ i, w.cell? ⟨b, i, none⟩ = cs[i]? := blk_cell h
theorem Blk.free {w : World} {b : Nat} {cs : Array Value} {t : TypeId} (h : Blk w b cs t) : ∀ i, w.frozen? ⟨b, i, none⟩ = false := blk_free h
theorem Blk.lt {w : World} {b : Nat} {cs : Array Value} {t : TypeId} (h : Blk w b cs t) : b < w.heap.size := blk_lt h
theorem Blk.only {w w' : World} {S : Nat → Prop} {b : Nat} {cs : Array Value} {t : TypeId} (h : Blk w b cs t) (k : Only S w w') (hs : ¬ S b) : Blk w' b cs t := k.heap h hs
theorem Ints.ext {w w' : World} {v : Value} {xs : List Int} (h : Ints w v xs) (k : Ext w w') : Ints w' v xs := Sl.ext h k

section
variable {P : Program} {w : World} {ops : Array Oper} {rest : List Oper} {o : Oper} {a : Act} {Q : Exit → Act → World → Prop}
theorem wpList_boxK (hgd : o.guard = none) {t : TypeId} {x : Operand} (ho : o.op = .box t x) {v : Value} (hx : a.eval x = v)
    (h : ∀ b w1, Blk w1 b v.cells t → Ext w w1 → w.heap.size ≤ b → wpList P ops Q rest (a.put o.dst (.pointer (some ⟨b, 0, none⟩))) w1) : wpList P ops Q (o :: rest) a w :=
  wpList_box hgd ho hx fun b w1 ⟨h1, h2, h3⟩ => h b w1 h1 h2 h3
theorem wpList_allocK (hgd : o.guard = none) {t : TypeId} (ho : o.op = .alloc t) {z : Value} (hz : ∀ w : World, (zeroValue t).run P w = .ok z w)
    (h : ∀ b w1, Blk w1 b z.cells t → Ext w w1 → w.heap.size ≤ b → wpList P ops Q rest (a.put o.dst (.pointer (some ⟨b, 0, none⟩))) w1) : wpList P ops Q (o :: rest) a w :=
  wpList_alloc hgd ho hz fun b w1 ⟨h1, h2, h3⟩ => h b w1 h1 h2 h3
theorem wpList_boxA (hgd : o.guard = none) {t : TypeId} {x : Operand} (ho : o.op = .box t x) {cs : Array Value} (hx : a.eval x = .agg cs)
    (h : ∀ b w1, Blk w1 b cs t → Ext w w1 → w.heap.size ≤ b → wpList P ops Q rest (a.put o.dst (.pointer (some ⟨b, 0, none⟩))) w1) : wpList P ops Q (o :: rest) a w :=
  wpList_boxK hgd ho hx h
theorem wpList_box1 (hgd : o.guard = none) {t : TypeId} {x : Operand} (ho : o.op = .box t x) {v : Value} (hx : a.eval x = v) (hv : v.cells = #[v])
    (h : ∀ b w1, Blk w1 b #[v] t → Ext w w1 → w.heap.size ≤ b → wpList P ops Q rest (a.put o.dst (.pointer (some ⟨b, 0, none⟩))) w1) : wpList P ops Q (o :: rest) a w :=
  wpList_boxK hgd ho hx (by rw [hv]; exact h)
theorem wpList_allocA (hgd : o.guard = none) {t : TypeId} (ho : o.op = .alloc t) {cs : Array Value} (hz : ∀ w : World, (zeroValue t).run P w = .ok (.agg cs) w)
    (h : ∀ b w1, Blk w1 b cs t → Ext w w1 → w.heap.size ≤ b → wpList P ops Q rest (a.put o.dst (.pointer (some ⟨b, 0, none⟩))) w1) : wpList P ops Q (o :: rest) a w :=
  wpList_allocK hgd ho hz h
theorem wpList_alloc1 (hgd : o.guard = none) {t : TypeId} (ho : o.op = .alloc t) {z : Value} (hz : ∀ w : World, (zeroValue t).run P w = .ok z w) (hv : z.cells = #[z])
    (h : ∀ b w1, Blk w1 b #[z] t → Ext w w1 → w.heap.size ≤ b → wpList P ops Q rest (a.put o.dst (.pointer (some ⟨b, 0, none⟩))) w1) : wpList P ops Q (o :: rest) a w :=
  wpList_allocK hgd ho hz (by rw [hv]; exact h)
/-- A struct is stored whole into a block of its own. -/
theorem wpList_storeK (hgd : o.guard = none) {ty : TypeId} {x y : Operand} (ho : o.op = .store ty x y) {b : Nat} {cells old : Array Value} {t : TypeId}
    (hb : Blk w b old t) (hx : a.eval x = .pointer (some ⟨b, 0, none⟩)) (hy : a.eval y = .agg cells) (hi : (P.info? ty).map (·.size) = some cells.size)
    (hold : old.size = cells.size) (h1 : cells.all (·.oneCell') = true)
    (h : ∀ w1, Blk w1 b cells t → Only (fun k => k = b) w w1 → wpList P ops Q rest (a.put o.dst undef) w1) : wpList P ops Q (o :: rest) a w :=
  wpList_storeB hgd ho hx hy hb hi hold h1 h
end
theorem made_repl (z : Value) (n : Nat) : madeCells #[z] n = (List.replicate n z).toArray := by
  apply Array.ext
  · simp [madeCells]
  · intro i h1 h2
    simp [madeCells, Nat.mod_one]
section
variable {P : Program} {w : World} {ops : Array Oper} {rest : List Oper} {o : Oper} {a : Act} {Q : Exit → Act → World → Prop}
/-- make of a slice of one-cell elements. -/
theorem wpList_makeK {t e : TypeId} {z : Value} {bytes : Nat} (T : SliceT P t e z 1 bytes) (hz1 : z.cells = #[z]) (hgd : o.guard = none) {x y : Operand} (ho : o.op = .makeSlice t x y) {N : Int}
    (hx : a.eval x = .int .i64 N) (hy : a.eval y = .int .i64 N) (h0 : 0 ≤ N) (hN : bytes * N.toNat ≤ 140737488355328)
    (h : ∀ b w1, Blk w1 b (List.replicate N.toNat z).toArray e → Ext w w1 → w.heap.size ≤ b → wpList P ops Q rest (a.put o.dst (.slice (some ⟨b, 0, none⟩) N.toNat N.toNat)) w1) : wpList P ops Q (o :: rest) a w := by
  obtain ⟨i, hi, hp⟩ := Option.map_eq_some_iff.1 T.info
  simp only [Prod.mk.injEq] at hp
  obtain ⟨hz, hsz, hby⟩ := hp
  have hN' : ((N.toNat : Nat) : Int) = N := by omega
  have hb := T.byt
  have h63 : N.toNat ≤ 9223372036854775807 := by
    have := Nat.le_mul_of_pos_left N.toNat hb
    omega
  refine wpList_make_row w hgd x y t ho e i z T.ht hi hz hsz hz1 .i64 .i64 N.toNat (by rw [hx, hN']) (by rw [hy, hN']) (by rw [hby]; omega) h63 ?_
  rw [made_repl]
  exact h _ _ (heap_alloc_new w _) (ext_lit w _ _) (Nat.le_refl _)
/-- One cell of a block of the call's own is stored. -/
theorem wpList_setK (hgd : o.guard = none) {ty : TypeId} {x y : Operand} (ho : o.op = .store ty x y) {b i : Nat} {v : Value} {cs : Array Value} {t : TypeId}
    (hb : Blk w b cs t) (hx : a.eval x = .pointer (some ⟨b, i, none⟩)) (hy : a.eval y = v) (hlt : i < cs.size) (hsz : (P.info? ty).map (·.size) = some 1)
    (hv : v.cells = #[v]) (h1 : v.oneCell' = true)
    (h : ∀ w1, Blk w1 b (cs.setIfInBounds i v) t → Only (fun k => k = b) w w1 → wpList P ops Q rest (a.put o.dst undef) w1) : wpList P ops Q (o :: rest) a w :=
  wpList_setB hgd ho hx hy hb hlt hsz hv h1 h
end
end Go.Proofs.Ytafnadaahnkcmaa
