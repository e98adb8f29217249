/- More small facts that later walks of this seat share: blocks of the call's own, in one word. -/
import Derived.Test.YtojobdffnnibaaaGreatBase
import Derived.Laws.Rows
import Derived.Deep.Cut
import Derived.Outline
import Derived.Deep.OwnRows
import Derived.Deep.AppendLies
namespace Go.Proofs.YtojobdffnnibaaaGreat
open Go.RowKit
set_option linter.unusedVariables false
theorem shareK {G T : Prop} (h : Hid T → G) (hT : T) : G := h (Hd hT)
/-- Block b holds these cells, and may be written. -/
def Blk (w : World) (b : Nat) (cs : Array Value) (t : TypeId) : Prop := w.heap[b]? = some (.cells cs t (0, 0))
theorem Blk.ext {w w' : World} {b : Nat} {cs : Array Value} {t : TypeId} (h : Blk w b cs t) (k : Ext w w') : Blk w' b cs t := k.blk h
theorem Blk.cell {w : World} {b : Nat} {cs : Array Value} {t : TypeId} (h : Blk w b cs t) : ∀ i, w.cell? ⟨b, i, none⟩ = cs[i]? := blk_cell h
theorem Blk.free {w : World} {b : Nat} {cs : Array Value} {t : TypeId} (h : Blk w b cs t) : ∀ i, w.frozen? ⟨b, i, none⟩ = false := blk_free h
theorem Blk.lt {w : World} {b : Nat} {cs : Array Value} {t : TypeId} (h : Blk w b cs t) : b < w.heap.size := blk_lt h
theorem Blk.only {w w' : World} {S : Nat → Prop} {b : Nat} {cs : Array Value} {t : TypeId} (h : Blk w b cs t) (k : Only S w w') (hs : ¬ S b) : Blk w' b cs t := k.heap h hs
theorem Ints.ext {w w' : World} {v : Value} {xs : List Int} (h : Ints w v xs) (k : Ext w w') : Ints w' v xs := Sl.ext h k
section
variable {P : Program} {w : World} {ops : Array Oper} {rest : List Oper} {o : Oper} {a : Act} {Q : Exit → Act → World → Prop}
theorem wpList_boxK (hgd : o.guard = none) {t : TypeId} {x : Operand} (ho : o.op = .box t x) {v : Value} (hx : a.eval x = v)
 (h : ∀ b w1, Blk w1 b v.cells t → Ext w w1 → w.heap.size ≤ b → wpList P ops Q rest (a.put o.dst (.pointer (some ⟨b, 0, none⟩))) w1) : wpList P ops Q (o :: rest) a w :=
 wpList_box hgd ho hx fun b w1 ⟨h1, h2, h3⟩ => h b w1 h1 h2 h3
theorem wpList_allocK (hgd : o.guard = none) {t : TypeId} (ho : o.op = .alloc t) {z : Value} (hz : ∀ w : World, (zeroValue t).run P w = .ok z w)
 (h : ∀ b w1, Blk w1 b z.cells t → Ext w w1 → w.heap.size ≤ b → wpList P ops Q rest (a.put o.dst (.pointer (some ⟨b, 0, none⟩))) w1) : wpList P ops Q (o :: rest) a w :=
 wpList_alloc hgd ho hz fun b w1 ⟨h1, h2, h3⟩ => h b w1 h1 h2 h3
theorem wpList_boxA (hgd : o.guard = none) {t : TypeId} {x : Operand} (ho : o.op = .box t x) {cs : Array Value} (hx : a.eval x = .agg cs)
 (h : ∀ b w1, Blk w1 b cs t → Ext w w1 → w.heap.size ≤ b → wpList P ops Q rest (a.put o.dst (.pointer (some ⟨b, 0, none⟩))) w1) : wpList P ops Q (o :: rest) a w :=
 wpList_boxK hgd ho hx h
theorem wpList_box1 (hgd : o.guard = none) {t : TypeId} {x : Operand} (ho : o.op = .box t x) {v : Value} (hx : a.eval x = v) (hv : v.cells = #[v])
 (h : ∀ b w1, Blk w1 b #[v] t → Ext w w1 → w.heap.size ≤ b → wpList P ops Q rest (a.put o.dst (.pointer (some ⟨b, 0, none⟩))) w1) : wpList P ops Q (o :: rest) a w :=
 wpList_boxK hgd ho hx (by rw [hv]; exact h)
theorem wpList_allocA (hgd : o.guard = none) {t : TypeId} (ho : o.op = .alloc t) {cs : Array Value} (hz : ∀ w : World, (zeroValue t).run P w = .ok (.agg cs) w)
 (h : ∀ b w1, Blk w1 b cs t → Ext w w1 → w.heap.size ≤ b → wpList P ops Q rest (a.put o.dst (.pointer (some ⟨b, 0, none⟩))) w1) : wpList P ops Q (o :: rest) a w :=
 wpList_allocK hgd ho hz h
theorem wpList_alloc1 (hgd : o.guard = none) {t : TypeId} (ho : o.op = .alloc t) {z : Value} (hz : ∀ w : World, (zeroValue t).run P w = .ok z w) (hv : z.cells = #[z])
 (h : ∀ b w1, Blk w1 b #[z] t → Ext w w1 → w.heap.size ≤ b → wpList P ops Q rest (a.put o.dst (.pointer (some ⟨b, 0, none⟩))) w1) : wpList P ops Q (o :: rest) a w :=
 wpList_allocK hgd ho hz (by rw [hv]; exact h)
theorem wpList_storeK (hgd : o.guard = none) {ty : TypeId} {x y : Operand} (ho : o.op = .store ty x y) {b : Nat} {cells old : Array Value} {t : TypeId}
 (hb : Blk w b old t) (hx : a.eval x = .pointer (some ⟨b, 0, none⟩)) (hy : a.eval y = .agg cells) (hi : (P.info? ty).map (·.size) = some cells.size)
 (hold : old.size = cells.size) (h1 : cells.all (·.oneCell') = true)
 (h : ∀ w1, Blk w1 b cells t → Only (fun k => k = b) w w1 → wpList P ops Q rest (a.put o.dst undef) w1) : wpList P ops Q (o :: rest) a w :=
 wpList_storeB hgd ho hx hy hb hi hold h1 h
end
theorem owns_weak {w : World} {base base' : Nat} {e : TypeId} {size : Nat} {v : Value} {n : Nat} {xs : List Value} (h : w.ownsRow base e size v n xs) (hb : base' ≤ base) : w.ownsRow base' e size v n xs :=
 ⟨h.1, h.2.elim .inl (fun ⟨g, cap, cur, hv, hg, r⟩ => .inr ⟨g, cap, cur, hv, Nat.le_trans hb hg, r⟩)⟩
theorem ext_grown {w0 w w' : World} {e : TypeId} {size n : Nat} {v : Value} {xs : List Value} (h : Ext w0 w) (hown : w.ownsRow w0.heap.size e size v n xs) (hg : w.grownBy w' v.ownBlock) : Ext w0 w' :=
 Below.grown h hg h.size (fun k hk => (hown.lt k hk).1)
theorem owns_ext {w w' : World} {base : Nat} {e : TypeId} {size : Nat} {v : Value} {n : Nat} {xs : List Value} (h : w.ownsRow base e size v n xs) (k : Ext w w') : w'.ownsRow base e size v n xs :=
 owns_only (S := fun _ => False) h (Only.of_ext k) (fun _ _ => id)
theorem addr0 (g j : Nat) : (⟨g, 0, none⟩ : Addr).add j = ⟨g, j, none⟩ := by unfold Addr.add; split <;> simp_all
theorem new_cells (w : World) (cs : List Value) (e : TypeId) : ∀ j u, cs[j]? = some u → (w.alloc (.cells cs.toArray e)).cell? ⟨w.heap.size, j, none⟩ = some u := fun j u hj => by
 rw [cell_of_row _ w.heap.size j cs.toArray e (0, 0) (heap_alloc_new w _)]; simpa using hj
theorem made_repl (z : Value) (n : Nat) : madeCells #[z] n = (List.replicate n z).toArray := by
 apply Array.ext
 · simp [madeCells]
 · intro i h1 h2
   simp [madeCells, Nat.mod_one]
section
variable {P : Program} {w : World} {ops : Array Oper} {rest : List Oper} {o : Oper} {a : Act} {Q : Exit → Act → World → Prop}
theorem wpList_makeK {t e : TypeId} {z : Value} {bytes : Nat} (T : SliceT P t e z 1 bytes) (hz1 : z.cells = #[z]) (hgd : o.guard = none) {x y : Operand} (ho : o.op = .makeSlice t x y) {N : Int}
 (hx : a.eval x = .int .i64 N) (hy : a.eval y = .int .i64 N) (h0 : 0 ≤ N) (hN : bytes * N.toNat ≤ 140737488355328)
 (h : ∀ b w1, Blk w1 b (List.replicate N.toNat z).toArray e → Ext w w1 → w.heap.size ≤ b → wpList P ops Q rest (a.put o.dst (.slice (some ⟨b, 0, none⟩) N.toNat N.toNat)) w1) : wpList P ops Q (o :: rest) a w := by
 obtain ⟨i, hi, hp⟩ := Option.map_eq_some_iff.1 T.info; simp only [Prod.mk.injEq] at hp; obtain ⟨hz, hsz, hby⟩ := hp; have hN' : ((N.toNat : Nat) : Int) = N := (by omega); have hb := T.byt
 have h63 : N.toNat ≤ 9223372036854775807 := by
  have := Nat.le_mul_of_pos_left N.toNat hb; omega
 refine wpList_make_row w hgd x y t ho e i z T.ht hi hz hsz hz1 .i64 .i64 N.toNat (by rw [hx, hN']) (by rw [hy, hN']) (by rw [hby]; omega) h63 ?_; rw [made_repl]; exact h _ _ (heap_alloc_new w _) (ext_lit w _ _) (Nat.le_refl _)
theorem run_app {t e : TypeId} {z : Value} {size bytes : Nat} (T : SliceT P t e z size bytes) (ty : TypeId) {base n : Nat} {v : Value} {xs : List Value} (hown : w.ownsRow base e size v n xs)
 {nb m c : Nat} {cs : List Value} (hl : cs.length = m * size) (hm : 0 < m) (hb : ∀ j u, cs[j]? = some u → w.cell? ⟨nb, j, none⟩ = some u) (h1 : ∀ u ∈ cs, u.oneCell' = true)
 (hbytes : (n + m) * bytes ≤ 140737488355328) (hbase : base ≤ w.heap.size) :
 ∃ v' w', (Builtin.append_ #[t, t] ty #[v, .slice (some ⟨nb, 0, none⟩) m c]).run P w = .ok v' w' ∧ w'.ownsRow base e size v' (n + m) (xs ++ cs) ∧ w.grownBy w' v.ownBlock ∧ FreshOr w v v' ∧
  ∀ g j u, v.ownBlock = some g → xs[j]? = some u → w'.cell? ⟨g, j, none⟩ = some u := by
 obtain ⟨ht, hinfo, hzs, hpos, hbyt⟩ := T; obtain ⟨i, hi, hp⟩ := Option.map_eq_some_iff.1 hinfo; simp only [Prod.mk.injEq] at hp; obtain ⟨hz, hsz, hby⟩ := hp
 have h63 : n + m ≤ maxLen := by
  have := Nat.le_mul_of_pos_right (n + m) hbyt; unfold maxLen; omega
 have hadd : ∀ g j, (⟨g, 0, none⟩ : Addr).add j = ⟨g, j, none⟩ := fun g j => (by unfold Addr.add; split <;> simp_all); have hc : ∀ j u, cs[j]? = some u → w.cell? ((⟨nb, 0, none⟩ : Addr).add j) = some u := fun j u hj => by rw [hadd]; exact hb j u hj
 rcases hown.2 with ⟨rfl, rfl⟩ | ⟨g, cap, cur, rfl, hbg, hg, hcc, hmx, hs', ht'⟩
 {
 have hx0 : xs = [] := List.eq_nil_of_length_eq_zero (by simpa using hown.1); subst hx0; obtain ⟨v', w', hr, h2, h3, h4⟩ := run_append_own (P := P) w w.heap.size t ty e i z size bytes ht hi hz hsz hby hzs hpos _ 0 [] (World.ownsRow_nil w _ e size) ⟨nb, 0, none⟩ m c cs hl hc h1 h63 hbytes (Nat.le_refl _); refine ⟨v', w', hr, ⟨h2.1, ?_⟩, h3, ?_, fun g j u hg => by cases hg⟩
 {
 rcases h2.2 with h0 | ⟨g, cap, cur, hv, hb, r⟩
 · exact Or.inl h0
 · exact Or.inr ⟨g, cap, cur, hv, Nat.le_trans hbase hb, r⟩
 }
 {
 rcases h2.2 with ⟨h0, h5⟩ | ⟨g, cap, cur, hv, hb, r⟩
 omega
 · exact Or.inr ⟨g, by rw [hv]; rfl, hb⟩
 }
 }
 {
 have hold : ∀ j u, xs[j]? = some u → w.cell? ⟨g, j, none⟩ = some u := fun j u hj => by
  have := hown.cells rfl j u hj
  rwa [hadd] at this
 by_cases hroom : n + m ≤ cap
 {
 obtain ⟨w', hr, h2, h3⟩ := run_append_fits (P := P) w base t ty e i size ht hi hsz g n cap xs hown ⟨nb, 0, none⟩ m c cs hl hc h1 hroom; refine ⟨_, w', hr, h2, h3, Or.inl rfl, fun g' j u hg' hj => ?_⟩
 cases hg'
 have := h2.cells rfl j u (by rw [List.getElem?_append_left (List.getElem?_eq_some_iff.1 hj).1]; exact hj)
 rwa [hadd] at this
 }
 {
 obtain ⟨v', w', hr, h2, h3⟩ := run_append_arg_grows (P := P) w t ty e i z size bytes ht hi hz hsz hby hzs hpos ⟨g, 0, none⟩ n cap xs hown.1 (hown.cells rfl) ⟨nb, 0, none⟩ m c cs hl hc (by omega) h63 hbytes; refine ⟨v', w', hr, ⟨h2.1, ?_⟩, ⟨h3.os, h3.tape, h3.output, h3.size, fun k hk _ => h3.block k hk (by simp)⟩, ?_, fun g' j u hg' hj => ?_⟩
 {
 rcases h2.2 with h0 | ⟨g, cap, cur, hv, hb, r⟩
 · exact Or.inl h0
 · exact Or.inr ⟨g, cap, cur, hv, Nat.le_trans hbase hb, r⟩
 }
 {
 rcases h2.2 with ⟨h0, h5⟩ | ⟨g, cap, cur, hv, hb, r⟩
 omega
 · exact Or.inr ⟨g, by rw [hv]; rfl, hb⟩
 }
 · cases hg'
   exact (World.cell?_of_block (a := ⟨g, j, none⟩) (h3.block g (Array.getElem?_eq_some_iff.1 hg).1 (by simp))).trans (hold j u hj)
 }
 }
theorem step_app {K : Act → World → Prop} {E : Prop} {t e : TypeId} {z : Value} {size bytes : Nat} (T : SliceT P t e z size bytes) (hgd : o.guard = none) {s x : Operand}
 (ho : o.op = .call { callee := .builtin .append, args := #[s, x], argTypes := #[t, t] }) {base n : Nat} {v : Value} {xs : List Value} (hs : a.eval s = v) (hown : w.ownsRow base e size v n xs)
 {nb m c : Nat} {cs : List Value} (hx : a.eval x = .slice (some ⟨nb, 0, none⟩) m c) (hl : cs.length = m * size) (hm : 0 < m) (hb : ∀ j u, cs[j]? = some u → w.cell? ⟨nb, j, none⟩ = some u) (h1 : ∀ u ∈ cs, u.oneCell' = true)
 (hbytes : (n + m) * bytes ≤ 140737488355328) (hbase : base ≤ w.heap.size)
 (h : ∀ v' w', w'.ownsRow base e size v' (n + m) (xs ++ cs) → w.grownBy w' v.ownBlock → FreshOr w v v' → (∀ g j u, v.ownBlock = some g → xs[j]? = some u → w'.cell? ⟨g, j, none⟩ = some u) → K (a.put o.dst v') w') :
 if Region.wanted o (yielded ops a.tmps) = true then Oper.wp P o a w K Q else E := by
 have hw : Region.wanted o (yielded ops a.tmps) = true := (by simp [Region.wanted, hgd]); rw [if_pos hw]; obtain ⟨v', w', hr, h2, h3, h4, h5⟩ := run_app T o.type hown (c := c) hl hm hb h1 hbytes hbase; unfold Oper.wp execOp; simp only [ho, resolve, invoke, builtin, Sem.run_bind, Sem.run_pure, Result.andThen_ok, List.map_toArray, List.map_cons, List.map_nil, hs, hx, hr]; exact h v' w' h2 h3 h4 h5
theorem wpList_setK (hgd : o.guard = none) {ty : TypeId} {x y : Operand} (ho : o.op = .store ty x y) {b i : Nat} {v : Value} {cs : Array Value} {t : TypeId}
 (hb : Blk w b cs t) (hx : a.eval x = .pointer (some ⟨b, i, none⟩)) (hy : a.eval y = v) (hlt : i < cs.size) (hsz : (P.info? ty).map (·.size) = some 1)
 (hv : v.cells = #[v]) (h1 : v.oneCell' = true)
 (h : ∀ w1, Blk w1 b (cs.setIfInBounds i v) t → Only (fun k => k = b) w w1 → wpList P ops Q rest (a.put o.dst undef) w1) : wpList P ops Q (o :: rest) a w :=
 wpList_setB hgd ho hx hy hb hlt hsz hv h1 h
end
end Go.Proofs.YtojobdffnnibaaaGreat