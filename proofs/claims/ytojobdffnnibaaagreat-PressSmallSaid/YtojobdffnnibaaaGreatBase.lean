/- Small general facts that all walks of this seat share: slices that read as a list, worlds that keep what was there. -/
import Derived.Test.YtojobdffnnibaaaGreatProg
import Derived.WalkKit
import Derived.WalkSpells
import Derived.WalkLawsBesides
import Derived.Deep.QuietTactic
import Derived.BigQuiet
import Derived.Deep.RegionHeld3
import Derived.Deep.DeepFit
import Derived.Lib.Hide
import Derived.Laws.AppendOwnNone
namespace Go.Proofs.YtojobdffnnibaaaGreat
open Go.RowKit
theorem ret_bool {a b : Bool} (h : a = b) : Ending.returned (.bool a) = .returned (.bool b) := by rw [h]
theorem ret_int {k : IntKind} {a b : Int} (h : a = b) : Ending.returned (.int k a) = .returned (.int k b) := by rw [h]
/-- What was there stays as it was. -/
abbrev Ext (w w' : World) : Prop := Below w.heap.size w w'
theorem Ext.of_drewN (w : World) (n : Nat) : Ext w (w.drewN n) := ⟨rfl, rfl, rfl, Nat.le_refl _, fun _ _ => rfl⟩
theorem Ext.tr {a b c : World} (h : Ext a b) (k : Ext b c) : Ext a c := h.trans (k.mono h.size)
theorem Ext.alloc {a b : World} (h : Ext a b) (o : Obj) : Ext a (b.alloc o) := Below.alloc h h.size o
theorem Ext.drew {a b : World} (h : Ext a b) : Ext a b.drew := Below.drew h
theorem Ext.cellSome {w w' : World} (h : Ext w w') {p : Addr} {v : Value} (hc : w.cell? p = some v) : w'.cell? p = some v :=
 (h.cell (World.block_lt_of_cell? w p hc)).trans hc
/-- v is a slice value that reads as xs in w (elements of one cell each). -/
def Sl (w : World) (v : Value) (xs : List Value) : Prop :=
 xs.length ≤ 9223372036854775807 ∧ ∃ a c, v = .slice a xs.length c ∧ (a = none → c = 0) ∧ (0 < xs.length → ∃ b o, a = some ⟨b, o, none⟩ ∧ ∀ i u, xs[i]? = some u → w.cell? ⟨b, o + i, none⟩ = some u)
theorem Sl.ext {w w' : World} {v : Value} {xs : List Value} (h : Sl w v xs) (he : Ext w w') : Sl w' v xs := by
 obtain ⟨hm, a, c, hv, hn, hc⟩ := h; refine ⟨hm, a, c, hv, hn, fun h => ?_⟩; obtain ⟨b, o, e, hh⟩ := hc h; exact ⟨b, o, e, fun i u hu => he.cellSome (hh i u hu)⟩
theorem Sl.nil (w : World) : Sl w (.slice none 0 0) [] := ⟨by simp, none, 0, rfl, fun _ => rfl, fun h => by simp at h⟩
theorem Sl.of_owns {w : World} {base : Nat} {e : TypeId} {v : Value} {n : Nat} {xs : List Value} (h : w.ownsRow base e 1 v n xs) : Sl w v xs := by
 obtain ⟨h1, h2⟩ := h; have hn : xs.length = n := by omega
 rcases h2 with ⟨rfl, rfl⟩ | ⟨g, cap, cur, rfl, hb, hg, hc, hm, hs, ht⟩
 · have : xs = [] := List.eq_nil_of_length_eq_zero hn
   subst this; exact Sl.nil w
 {
 unfold maxLen at hm; refine ⟨by omega, some ⟨g, 0, none⟩, cap, by rw [hn], fun h => (by cases h), fun _ => ⟨g, 0, rfl, fun i u hu => ?_⟩⟩; rw [cell_of_row w g (0 + i) cur e (0, 0) hg]; rw [← ht, List.getElem?_take] at hu
 split at hu
 · simpa using hu
 · cases hu
 }
/-- A slice of integers. -/
abbrev Ints (w : World) (v : Value) (xs : List Int) : Prop := Sl w v (xs.map (.int .i64))
theorem Ints.len {w : World} {v : Value} {xs : List Int} (h : Ints w v xs) : xs.length ≤ 9223372036854775807 := by simpa using h.1
theorem Ints.form {w : World} {v : Value} {xs : List Int} (h : Ints w v xs) : ∃ a c, v = .slice a xs.length c ∧ Hid (Ints w (.slice a xs.length c) xs) := by
 obtain ⟨hm, a, c, hv, hn, hc⟩ := h; simp only [List.length_map] at hv; subst hv; exact ⟨a, c, rfl, hm, a, c, by simp, hn, hc⟩
theorem Ints.cells {w : World} {a : Option Addr} {n c : Nat} {xs : List Int} (h : Ints w (.slice a n c) xs) (h0 : 0 < xs.length) :
 ∃ b o, a = some ⟨b, o, none⟩ ∧ ∀ i (h : i < xs.length), w.cell? ⟨b, o + i, none⟩ = some (.int .i64 xs[i]) := by
 obtain ⟨hm, a', c', hv, _, hc⟩ := h; injection hv with e1 e2 e3; subst e1; obtain ⟨b, o, e, hh⟩ := hc (by simpa using h0); exact ⟨b, o, e, fun i hi => hh i _ (by simp [hi])⟩
/-- The row of the program's table of a slice type t of elements e. -/
structure SliceT (P : Program) (t e : TypeId) (z : Value) (size bytes : Nat) : Prop where
 ht : P.underlying t = some (.slice e)
 info : (P.info? e).map (fun i => (i.zero, i.size, i.bytes)) = some (some z, size, bytes)
 zs : z.cells.size = size
 pos : 0 < size
 byt : 0 < bytes
/-- y is a slice value whose first m elements have the cells news. -/
def Src (size : Nat) (w : World) (y : Value) (m : Nat) (news : List Value) : Prop :=
 news.length = m * size ∧ ∃ a c, y = .slice a m c ∧ (a = none → m = 0 ∧ c = 0) ∧ ∀ ad, a = some ad → ∀ j u, news[j]? = some u → w.cell? (ad.add j) = some u
theorem Sl.src {w : World} {v : Value} {xs : List Value} (h : Sl w v xs) : Src 1 w v xs.length xs := by
 obtain ⟨hm, a, c, hv, hn, hc⟩ := h; refine ⟨by simp, a, c, hv, fun e => ⟨?_, hn e⟩, fun ad e j u hj => ?_⟩
 {
 rcases Nat.eq_zero_or_pos xs.length with h0 | h0
 · exact h0
 · obtain ⟨b, o, e', _⟩ := hc h0; rw [e] at e'; cases e'
 }
 {
 have h0 : 0 < xs.length := by
  rcases Nat.eq_zero_or_pos xs.length with h0 | h0
  · rw [List.eq_nil_of_length_eq_zero h0] at hj; simp at hj
  · exact h0
 obtain ⟨b, o, e', hh⟩ := hc h0; rw [e] at e'; cases e'; have hadd : (⟨b, o, none⟩ : Addr).add j = ⟨b, o + j, none⟩ := (by unfold Addr.add; split <;> simp_all); rw [hadd]; exact hh j u hj
 }
theorem Src.lit (w : World) (cs : List Value) (m size : Nat) (h : cs.length = m * size) (e : TypeId) (c : Nat) :
 Src size (w.alloc (.cells cs.toArray e)) (.slice (some ⟨w.heap.size, 0, none⟩) m c) m cs := by
 refine ⟨h, _, _, rfl, fun h => (by cases h), fun ad e' j u hj => ?_⟩
 cases e'
 have hadd : (⟨w.heap.size, 0, none⟩ : Addr).add j = ⟨w.heap.size, j, none⟩ := (by unfold Addr.add; split <;> simp_all); rw [hadd, cell_of_row _ w.heap.size j cs.toArray e (0, 0) (heap_alloc_new w _)]
 simpa using hj
theorem ext_lit (w : World) (cs : Array Value) (t : TypeId) : Ext w (w.alloc (.cells cs t)) := (Below.refl _ _).alloc (Nat.le_refl _) _
theorem i64_eq (n : Int) (h : -9223372036854775808 ≤ n ∧ n ≤ 9223372036854775807) : IntKind.i64.wrap n = n := IntWalk.i64_in n h
/-- The row stayed where it was, or it is new. -/
def FreshOr (w : World) (v v' : Value) : Prop := v'.ownBlock = v.ownBlock ∨ ∃ g, v'.ownBlock = some g ∧ w.heap.size ≤ g
theorem wpList_app {P : Program} {w : World} {ops : Array Oper} {rest : List Oper} {o : Oper} {a : Act} {Q : Exit → Act → World → Prop} {t e : TypeId} {z : Value} {size bytes : Nat}
 (T : SliceT P t e z size bytes) (hgd : o.guard = none) {s x : Operand}
 (ho : o.op = .call { callee := .builtin .append, args := #[s, x], argTypes := #[t, t] })
 {base : Nat} {v : Value} {n : Nat} {xs : List Value} (hs : a.eval s = v) (hown : w.ownsRow base e size v n xs)
 {y : Value} {m : Nat} {news : List Value} (hx : a.eval x = y) (hsrc : Src size w y m news) (h1 : ∀ u ∈ news, u.oneCell' = true)
 (hbytes : (n + m) * bytes ≤ 140737488355328) (hbase : base ≤ w.heap.size)
 (h : ∀ v' w', w'.ownsRow base e size v' (n + m) (xs ++ news) → w.grownBy w' v.ownBlock → FreshOr w v v' → wpList P ops Q rest (a.put o.dst v') w') : wpList P ops Q (o :: rest) a w := by
 obtain ⟨ht, hinfo, hzs, hpos, hbyt⟩ := T; obtain ⟨i, hi, hp⟩ := Option.map_eq_some_iff.1 hinfo; simp only [Prod.mk.injEq] at hp; obtain ⟨hz, hsz, hby⟩ := hp; obtain ⟨hl, ax, c, rfl, hnone, hcell⟩ := hsrc
 have h63 : n + m ≤ maxLen := by
  have := Nat.le_mul_of_pos_right (n + m) hbyt; unfold maxLen; omega
 cases ax with
 | none =>
   obtain ⟨rfl, rfl⟩ := hnone rfl; have hnil : news = [] := List.eq_nil_of_length_eq_zero (by simpa using hl); subst hnil; refine wpList_append_own_none hgd s x t ho base e i size ht hi v n xs hs hown hx ?_; exact h v w (by simpa using hown) ⟨rfl, rfl, rfl, Nat.le_refl _, fun _ _ _ => rfl⟩ (Or.inl rfl)
 | some ad =>
   rcases hown.2 with ⟨rfl, rfl⟩ | ⟨g, cap, cur, rfl, hb, hg, hc, hm, hs', ht'⟩
   {
   have hx0 : xs = [] := List.eq_nil_of_length_eq_zero (by simpa using hown.1); subst hx0; refine wpList_append_own w hgd s x t ho w.heap.size e i z size bytes ht hi hz hsz hby hzs hpos _ 0 [] hs (World.ownsRow_nil w _ e size) ad m c news hx hl (hcell ad rfl) h1 h63 hbytes (Nat.le_refl _) ?_; intro v' w' hown' hgr hnil; refine h v' w' ⟨hown'.1, ?_⟩ hgr ?_
   {
   rcases hown'.2 with h0 | ⟨g, cap, cur, hv, hb, r⟩
   · exact Or.inl h0
   · exact Or.inr ⟨g, cap, cur, hv, Nat.le_trans hbase hb, r⟩
   }
   {
   rcases hown'.2 with ⟨h0, _⟩ | ⟨g, cap, cur, hv, hb, r⟩
   · exact Or.inl (by rw [h0])
   · exact Or.inr ⟨g, by rw [hv]; rfl, hb⟩
   }
   }
   {
   by_cases hroom : n + m ≤ cap
   { refine wpList_append_fits w hgd s x t ho base e i size ht hi hsz g n cap xs hs hown ad m c news hx hl (hcell ad rfl) h1 hroom ?_; intro w' hown' hgr; exact h _ w' hown' hgr (Or.inl rfl) }
   {
   refine wpList_append_grows w hgd s x t ho e i z size bytes ht hi hz hsz hby hzs hpos (some ⟨g, 0, none⟩) n cap xs hs (fun h => by cases h) hown.1 (fun b hb => by cases hb; exact hown.cells rfl)
    ad m c news hx hl (hcell ad rfl) h1 (by omega) h63 hbytes ?_
   intro v' w' hown' hgr; refine h v' w' ⟨hown'.1, ?_⟩ ⟨hgr.os, hgr.tape, hgr.output, hgr.size, fun k hk _ => hgr.block k hk (by simp)⟩ ?_
   {
   rcases hown'.2 with h0 | ⟨g, cap, cur, hv, hb, r⟩
   · exact Or.inl h0
   · exact Or.inr ⟨g, cap, cur, hv, Nat.le_trans hbase hb, r⟩
   }
   {
   rcases hown'.2 with ⟨h0, h1⟩ | ⟨g', cap, cur, hv, hb, r⟩
   omega
   · exact Or.inr ⟨g', by rw [hv]; rfl, hb⟩
   }
   }
   }
theorem blk_cell {w : World} {b : Nat} {cs : Array Value} {t : TypeId} (h : w.heap[b]? = some (.cells cs t (0, 0))) : ∀ i, w.cell? ⟨b, i, none⟩ = cs[i]? := fun i => cell_of_row w b i cs t (0, 0) h
theorem blk_free {w : World} {b : Nat} {cs : Array Value} {t : TypeId} (h : w.heap[b]? = some (.cells cs t (0, 0))) : ∀ i, w.frozen? ⟨b, i, none⟩ = false := fun i => by simp [World.frozen?, h]
theorem blk_lt {w : World} {b : Nat} {o : Obj} (h : w.heap[b]? = some o) : b < w.heap.size := (Array.getElem?_eq_some_iff.1 h).1
theorem Ext.blk {w w' : World} (h : Ext w w') {b : Nat} {o : Obj} (hb : w.heap[b]? = some o) : w'.heap[b]? = some o := (h.block b (blk_lt hb)).trans hb
/-- A new block, the world behind it under a name of its own. -/
def NewB (w : World) (cs : Array Value) (t : TypeId) (b : Nat) (w1 : World) : Prop :=
 w1.heap[b]? = some (.cells cs t (0, 0)) ∧ Ext w w1 ∧ w.heap.size ≤ b
theorem newB (w : World) (cs : Array Value) (t : TypeId) : NewB w cs t w.heap.size (w.alloc (.cells cs t)) :=
 ⟨heap_alloc_new w _, ext_lit w cs t, Nat.le_refl _⟩
section
variable {P : Program} {w : World} {ops : Array Oper} {rest : List Oper} {o : Oper} {a : Act} {Q : Exit → Act → World → Prop}
theorem wpList_box (hgd : o.guard = none) {t : TypeId} {x : Operand} (ho : o.op = .box t x) {v : Value} (hx : a.eval x = v)
 (h : ∀ b w1, NewB w v.cells t b w1 → wpList P ops Q rest (a.put o.dst (.pointer (some ⟨b, 0, none⟩))) w1) : wpList P ops Q (o :: rest) a w := by
 refine wpList_plain hgd fun K hK => ?_
 have hr : (execOp a.eval o).run P w = .ok (.value (.pointer (some ⟨w.heap.size, 0, none⟩))) (w.alloc (.cells v.cells t)) := by
  unfold execOp; rw [ho]; simp only [hx]; rfl
 unfold Oper.wp; rw [hr]; exact hK _ _ (h _ _ (newB w v.cells t))
theorem wpList_alloc (hgd : o.guard = none) {t : TypeId} (ho : o.op = .alloc t) {z : Value} (hz : ∀ w : World, (zeroValue t).run P w = .ok z w)
 (h : ∀ b w1, NewB w z.cells t b w1 → wpList P ops Q rest (a.put o.dst (.pointer (some ⟨b, 0, none⟩))) w1) : wpList P ops Q (o :: rest) a w := by
 refine wpList_plain hgd fun K hK => ?_
 have hr : (execOp a.eval o).run P w = .ok (.value (.pointer (some ⟨w.heap.size, 0, none⟩))) (w.alloc (.cells z.cells t)) := by
  unfold execOp; rw [ho]; simp only [Instr.alloc, Sem.run_bind, hz, Result.andThen]; rfl
 unfold Oper.wp; rw [hr]; exact hK _ _ (h _ _ (newB w z.cells t))
end
/-- Blocks that S does not name are as they were. -/
structure Only (S : Nat → Prop) (w w' : World) : Prop where
 os : w'.os = w.os
 tape : w'.tape = w.tape
 output : w'.output = w.output
 size : w.heap.size ≤ w'.heap.size
 block : ∀ k, k < w.heap.size → ¬ S k → w'.heap[k]? = w.heap[k]?
theorem Only.refl (S : Nat → Prop) (w : World) : Only S w w := ⟨rfl, rfl, rfl, Nat.le_refl _, fun _ _ _ => rfl⟩
theorem Only.tr {S : Nat → Prop} {a b c : World} (h : Only S a b) (k : Only S b c) : Only S a c :=
 ⟨k.os.trans h.os, k.tape.trans h.tape, k.output.trans h.output, Nat.le_trans h.size k.size, fun i hi hs => (k.block i (Nat.lt_of_lt_of_le hi h.size) hs).trans (h.block i hi hs)⟩
theorem Only.weak {S T : Nat → Prop} {a b : World} (h : Only S a b) (hS : ∀ k, k < a.heap.size → S k → T k) : Only T a b :=
 ⟨h.os, h.tape, h.output, h.size, fun i hi hs => h.block i hi (fun hh => hs (hS i hi hh))⟩
theorem Only.of_ext {S : Nat → Prop} {a b : World} (h : Ext a b) : Only S a b := ⟨h.os, h.tape, h.output, h.size, fun k hk _ => h.block k hk⟩
theorem Only.below {S : Nat → Prop} {a b : World} {B : Nat} (h : Only S a b) (hB : B ≤ a.heap.size) (hS : ∀ k, S k → B ≤ k) : Below B a b :=
 ⟨h.os, h.tape, h.output, h.size, fun k hk => h.block k (by omega) (fun hs => by have := hS k hs; omega)⟩
theorem Only.set {S : Nat → Prop} (w : World) (p : Addr) (v : Value) (hp : S p.block) : Only S w (w.setCell p v) :=
 ⟨rfl, rfl, rfl, by simp [World.setCell], fun k _ hs => Below.heap_setCell _ _ _ _ (fun e => hs (e ▸ hp))⟩
theorem Only.heap {S : Nat → Prop} {a b : World} (h : Only S a b) {k : Nat} {o : Obj} (hk : a.heap[k]? = some o) (hs : ¬ S k) : b.heap[k]? = some o :=
 (h.block k (Array.getElem?_eq_some_iff.1 hk).1 hs).trans hk
theorem Only.cell {S : Nat → Prop} {a b : World} (h : Only S a b) {p : Addr} {v : Value} (hc : a.cell? p = some v) (hs : ¬ S p.block) : b.cell? p = some v :=
 (World.cell?_of_block (h.block p.block (World.block_lt_of_cell? a p hc) hs)).trans hc
section
variable {P : Program} {w : World} {ops : Array Oper} {rest : List Oper} {o : Oper} {a : Act} {Q : Exit → Act → World → Prop}
theorem wpList_storeB (hgd : o.guard = none) {ty : TypeId} {x y : Operand} (ho : o.op = .store ty x y) {b : Nat} {cells old : Array Value} {t : TypeId}
 (hx : a.eval x = .pointer (some ⟨b, 0, none⟩)) (hy : a.eval y = .agg cells) (hb : w.heap[b]? = some (.cells old t (0, 0))) (hi : (P.info? ty).map (·.size) = some cells.size)
 (hold : old.size = cells.size) (h1 : cells.all (·.oneCell') = true)
 (h : ∀ w1, w1.heap[b]? = some (.cells cells t (0, 0)) → Only (fun k => k = b) w w1 → wpList P ops Q rest (a.put o.dst undef) w1) : wpList P ops Q (o :: rest) a w :=
 wpList_store_row hgd ty x y ho b cells hx hy t old hb hi hold h1 (h _ (setRow_heap w b old cells t (0, 0) hb)
  ⟨rfl, rfl, rfl, by simp [World.setRow], fun k _ hk => setRow_other w b k cells hk⟩)
end
theorem blk_set {w : World} {b : Nat} {cs : Array Value} {t : TypeId} (h : w.heap[b]? = some (.cells cs t (0, 0))) (i : Nat) (v : Value) : (w.setCell ⟨b, i, none⟩ v).heap[b]? = some (.cells (cs.setIfInBounds i v) t (0, 0)) := by
 simp [World.setCell, Array.getElem?_modify, h]
theorem wpList_setB {P : Program} {w : World} {ops : Array Oper} {rest : List Oper} {o : Oper} {a : Act} {Q : Exit → Act → World → Prop} (hgd : o.guard = none) {ty : TypeId} {x y : Operand} (ho : o.op = .store ty x y) {b i : Nat} {v : Value} {cs : Array Value} {t : TypeId}
 (hx : a.eval x = .pointer (some ⟨b, i, none⟩)) (hy : a.eval y = v) (hb : w.heap[b]? = some (.cells cs t (0, 0))) (hlt : i < cs.size) (hsz : (P.info? ty).map (·.size) = some 1)
 (hv : v.cells = #[v]) (h1 : v.oneCell' = true)
 (h : ∀ w1, w1.heap[b]? = some (.cells (cs.setIfInBounds i v) t (0, 0)) → Only (fun k => k = b) w w1 → wpList P ops Q rest (a.put o.dst undef) w1) : wpList P ops Q (o :: rest) a w := by
 refine wpList_plain hgd fun K hK => ?_; obtain ⟨inf, hinf, hs1⟩ := Option.map_eq_some_iff.1 hsz; have hc : (w.cell? ⟨b, i, none⟩).isSome = true := (by rw [blk_cell hb]; simp [hlt]); have hf := blk_free hb i; obtain ⟨u, hu⟩ := Option.isSome_iff_exists.1 hc
 have hst : (storeVar ty ⟨b, i, none⟩ v).run P w = .ok () (w.setCell ⟨b, i, none⟩ v) := by
  have hs := run_storeCells_cells (P := P) b i [v] 0 w (fun j hj => by have : j = 0 := by simpa using hj
                                                                       subst this; simpa using hc) (fun j hj => by have : j = 0 := by simpa using hj
                                                                                                                   subst this; simpa using hf) (by simpa using h1)
  simp [storeVar, sizeOf, typeInfo, hinf, hv, hs1, hs, World.setCells]
 unfold Oper.wp execOp; simp only [ho, hx, hy, Instr.storeAt, Instr.sureAddr, Sem.run_bind, Sem.run_pure, Result.andThen_ok, hst]; exact hK _ _ (h _ (blk_set hb i v) (Only.set _ _ _ rfl))
theorem Ext.only {w w' : World} {S : Nat → Prop} (h : Only S w w') (hS : ∀ k, S k → w.heap.size ≤ k) : Ext w w' := h.below (Nat.le_refl _) hS
theorem Ext.then_only {a b c : World} (h : Ext a b) {S : Nat → Prop} (k : Only S b c) (hS : ∀ k, S k → a.heap.size ≤ k) : Ext a c :=
 h.trans (k.below h.size hS)
theorem owns_only {w w' : World} {S : Nat → Prop} {base : Nat} {e : TypeId} {size : Nat} {v : Value} {n : Nat} {xs : List Value} (h : w.ownsRow base e size v n xs) (ho : Only S w w') (hS : ∀ k, v.ownBlock = some k → ¬ S k) : w'.ownsRow base e size v n xs := by
 refine ⟨h.1, ?_⟩
 rcases h.2 with hn | ⟨g, cap, cur, rfl, hb, hgg, rest⟩
 · exact .inl hn
 · exact .inr ⟨g, cap, cur, rfl, hb, ho.heap hgg (hS g rfl), rest⟩
theorem only_grown {w w' : World} {v : Value} (h : w.grownBy w' v.ownBlock) : Only (fun k => v.ownBlock = some k) w w' :=
 ⟨h.os, h.tape, h.output, h.size, fun k hk hs => h.block k hk (fun e => hs e.symm)⟩
/-- An integer that an int holds. -/
abbrev I64 (n : Int) : Prop := -9223372036854775808 ≤ n ∧ n ≤ 9223372036854775807
theorem Hd {p : Prop} (h : p) : Hid p := Lib.hid h
end Go.Proofs.YtojobdffnnibaaaGreat