/- What Groups keeps in memory while it walks the subsets; its marks. -/
import Derived.Test.YtekplfbfkfiabaaPlainGr
import Derived.OwnWalkIn
namespace Go.Proofs.Ytekplfbfkfiabaa
open Go.RowKit Go.Shelf
set_option linter.unusedVariables false
set_option linter.unusedSimpArgs false

theorem leaves_marks {F : Fence} {n : Nat} {P : Program} {fn : Func} {tmps : Array Value} {R : Ending → World → Prop} : ∀ (Ds : List Nat) (w : World), Ds.Nodup → (∀ D ∈ Ds, w.heap[D]? = some (.deferred (some []))) →
    (∀ w', Only (fun b => b ∈ Ds) w w' → LeavesIn F n P fn tmps R [] .returning w') → LeavesInM F n P fn tmps R (Ds.map fun D => { target := .collected D, args := #[] }) .returning w
  | [], w, _, _, h => h w (Only.refl _ _)
  | D :: Ds, w, hn, hd, h => by
    rw [List.nodup_cons] at hn
    have h1 := hd D (by simp)
    refine ⟨by simp, .inl ⟨D, _, rfl, run_takeDeferred h1, ?_⟩⟩
    have hlt : D < w.heap.size := (Array.getElem?_eq_some_iff.1 h1).1
    have ho : Only (fun b => b ∈ D :: Ds) w (w.putObj D (.deferred none)) := by
      have hg := grownBy_putObj' w D (.deferred none)
      exact ⟨hg.os, hg.tape, hg.output, hg.size, fun k hk hs => hg.block k hk (fun e => by cases e; exact hs (by simp))⟩
    refine leaves_marks Ds _ hn.2 (fun D' hD' => ?_) fun w' hw' => h w' (ho.tr (hw'.weak fun k _ hk => List.mem_cons_of_mem _ hk))
    exact (World.putObj_heap_other (fun (e : _ = _) => hn.1 (by first | (rw [e]; exact hD') | (rw [← e]; exact hD')))).trans (hd D' (List.mem_cons_of_mem _ hD'))
def marks (Ds : List Nat) : List Deferred := Ds.map fun D => { target := .collected D, args := #[] }
theorem keeps_ext {B : Nat} {w w' : World} (h : Ext w w') : KeepsFrom B w w' := ⟨h.size, fun k o _ hk _ => h.blk hk⟩
theorem keeps_cells {B : Nat} {S : Nat → Prop} {w w' : World} (h : Only S w w') (hs : ∀ b, S b → ∃ cs t, Blk w b cs t) : KeepsFrom B w w' :=
  ⟨h.size, fun k o _ hk ho => h.heap hk (fun e => by
    obtain ⟨cs, t, hb⟩ := hs k e
    have h2 := hk.symm.trans hb
    cases h2
    cases ho)⟩
theorem keeps_blk {B b : Nat} {cs : Array Value} {t : TypeId} {w w' : World} (h : Only (fun q => q = b) w w') (hb : Blk w b cs t) : KeepsFrom B w w' :=
  keeps_cells h (fun q e => by rw [e]; exact ⟨_, _, hb⟩)
theorem grown_row {w w' : World} {row : Option Nat} (hg : w.grownBy w' row) : Only (fun b => row = some b) w w' :=
  ⟨hg.os, hg.tape, hg.output, hg.size, fun k hk hs => hg.block k hk (fun e => hs e.symm)⟩
theorem foldl_one (T : Array Value) (p0 : Tmp) (v0 : Value) : Array.foldl (fun (t : Array Value) (x : Tmp × Value) => match x with | (p, v) => t.setIfInBounds p v) T (#[p0].zip #[v0]) = T.setIfInBounds p0 v0 := by simp
/-- The marks of the ranges that are done. -/
def DsI (lo hi : Nat) (Ds : List Nat) (W : World) : Prop := ∀ D ∈ Ds, lo ≤ D ∧ D < hi ∧ W.heap[D]? = some (.deferred (some []))
section
variable {lo hi : Nat} {Ds : List Nat} {W W' : World}
theorem DsI.ext (h : DsI lo hi Ds W) (k : Ext W W') : DsI lo hi Ds W' := fun D hD => ⟨(h D hD).1, (h D hD).2.1, k.blk (h D hD).2.2⟩
theorem DsI.blk {b : Nat} {cs : Array Value} {t : TypeId} (h : DsI lo hi Ds W) (k : Only (fun q => q = b) W W') (hb : Blk W b cs t) : DsI lo hi Ds W' := fun D hD => ⟨(h D hD).1, (h D hD).2.1, k.heap (h D hD).2.2 (fun e => by
  have h2 := (h D hD).2.2
  rw [e] at h2
  have h3 := h2.symm.trans hb
  cases h3)⟩
theorem DsI.only {S : Nat → Prop} (h : DsI lo hi Ds W) (k : Only S W W') (hs : ∀ b, S b → hi ≤ b) : DsI lo hi Ds W' := fun D hD => ⟨(h D hD).1, (h D hD).2.1, k.heap (h D hD).2.2 (fun e => by have h1 := hs _ e; have h2 := (h D hD).2.1; omega)⟩
theorem DsI.mono {hi' : Nat} (h : DsI lo hi Ds W) (hh : hi ≤ hi') : DsI lo hi' Ds W := fun D hD => ⟨(h D hD).1, Nat.lt_of_lt_of_le (h D hD).2.1 hh, (h D hD).2.2⟩
theorem DsI.size (h : DsI lo hi Ds W) : DsI lo W.heap.size Ds W := fun D hD => ⟨(h D hD).1, (Array.getElem?_eq_some_iff.1 (h D hD).2.2).1, (h D hD).2.2⟩
end
theorem GM.onlyS {w wr w1 : World} {b8 b9 gs gm N : Nat} {S M : List Int} {R : Nat → Prop} (h : GM w wr b8 b9 gs gm N S M) (k : Only R wr w1) (hs : ∀ b, R b → w.heap.size ≤ b ∧ ∀ cs t, ¬ Blk wr b cs t) : GM w w1 b8 b9 gs gm N S M :=
  ⟨h.h8.only k (fun e => (hs _ e).2 _ _ h.h8), h.h9.only k (fun e => (hs _ e).2 _ _ h.h9), h.hs.only k (fun e => (hs _ e).2 _ _ h.hs), h.hm.only k (fun e => (hs _ e).2 _ _ h.hm), h.ls, h.lm, h.far, h.ne, h.x.then_only k (fun q e => (hs q e).1)⟩
theorem nblk_of {W : World} {b : Nat} {o : Obj} (h : W.heap[b]? = some o) (ho : o.isCells = false) : ∀ cs t, ¬ Blk W b cs t := fun cs t hb => by
  have h2 := h.symm.trans hb
  cases h2
  cases ho

/-- The most groups, in the midst of a row. -/
structure MP (k : Nat) (B : Int) (M1 M : List Int) : Prop where
  len : M.length = M1.length
  other : ∀ i, i ≠ k → gI M i = gI M1 i
  at_ : -(B + 1) ≤ gI M k ∧ gI M k ≤ B + 1
theorem gI_setO (M : List Int) {i k : Nat} (h : i ≠ k) (v : Int) : gI (M.set k v) i = gI M i := by
  unfold gI; rw [List.getD_eq_getElem?_getD, List.getElem?_set_ne (fun e => h e.symm), List.getD_eq_getElem?_getD]
theorem gI_setS (M : List Int) {k : Nat} (h : k < M.length) (v : Int) : gI (M.set k v) k = v := by
  unfold gI; rw [List.getD_eq_getElem?_getD, List.getElem?_set_self h]; rfl
theorem xor_ne (k x : Nat) (hx : 1 ≤ x) : k ^^^ x ≠ k := fun e => by
  have h1 : k ^^^ (k ^^^ x) = k ^^^ k := by rw [e]
  rw [← Nat.xor_assoc, Nat.xor_self, Nat.zero_xor] at h1
  omega
theorem MP.start {k : Nat} {B : Int} {M1 : List Int} (hs : Small B M1) (hB : 0 ≤ B) : MP k B M1 M1 := ⟨rfl, fun _ _ => rfl, by have := gI_small hs hB k; omega⟩
theorem MP.step {k : Nat} {B : Int} {M1 M S : List Int} (h : MP k B M1 M) (hs : Small B M1) (hB : 0 ≤ B) (hk : k < M1.length) {x : Nat} (hx : 1 ≤ x) : MP k B M1 (mStep k S M x) := by
  unfold mStep
  split
  · refine ⟨by simp [h.len], fun i hi => by rw [gI_setO _ hi]; exact h.other i hi, ?_⟩
    rw [gI_setS _ (by rw [h.len]; exact hk), h.other _ (xor_ne k x hx)]
    have h1 := gI_small hs hB (k ^^^ x)
    have h2 := h.at_
    omega
  · exact h
theorem MP.small {k : Nat} {B : Int} {M1 M : List Int} (h : MP k B M1 M) (hs : Small B M1) (hB : 0 ≤ B) : Small (B + 1) M := fun x hx => by
  obtain ⟨i, hi, rfl⟩ := List.getElem_of_mem hx
  rw [← gI_get hi]
  by_cases e : i = k
  · rw [e]; exact h.at_
  · rw [h.other i e]
    have := gI_small hs hB i
    omega
theorem subF_pos (set : Nat) : ∀ (f s x : Nat), x ∈ subF set f s → 1 ≤ x
  | 0, s, x, h => by cases h
  | f + 1, s, x, h => by
    unfold subF at h
    split at h
    · cases h
    · rename_i h0
      rcases List.mem_cons.1 h with rfl | h
      · omega
      · exact subF_pos set f _ x h
theorem MP.fold {k : Nat} {B : Int} {M1 S : List Int} (hs : Small B M1) (hB : 0 ≤ B) (hk : k < M1.length) : ∀ (L : List Nat) (M : List Int), (∀ x ∈ L, 1 ≤ x) → MP k B M1 M → MP k B M1 (L.foldl (mStep k S) M)
  | [], M, _, h => h
  | x :: L, M, hl, h => MP.fold hs hB hk L _ (fun y hy => hl y (List.mem_cons_of_mem _ hy)) (h.step hs hB hk (hl x (by simp)))
/-- Between two rounds of the inner range. -/
structure RI (w : World) (b8 b9 gs gm N k lo hi xb yb qb f : Nat) (B : Int) (Ds : List Nat) (S1 M1 : List Int) (L : List Nat) (W : World) : Prop where
  g : GM w W b8 b9 gs gm N S1 (L.foldl (mStep k S1) M1)
  bx : Blk W xb #[.int .i64 (k : Int)] 3
  by_ : Blk W yb #[.int .i64 (f : Int)] 3
  bq : Blk W qb #[.int .i64 (k : Int)] 3
  m : MP k B M1 (L.foldl (mStep k S1) M1)
  d : DsI lo hi Ds W
section
variable {w : World} {b8 b9 gs gm N k lo hi xb yb qb f : Nat} {B : Int} {Ds : List Nat} {S1 M1 : List Int} {L : List Nat} {W W' : World}
theorem RI.ext (h : RI w b8 b9 gs gm N k lo hi xb yb qb f B Ds S1 M1 L W) (x : Ext W W') : RI w b8 b9 gs gm N k lo hi xb yb qb f B Ds S1 M1 L W' := ⟨h.g.ext x, h.bx.ext x, h.by_.ext x, h.bq.ext x, h.m, h.d.ext x⟩
theorem RI.own {n : Nat} (hw : w.heap.size ≤ n) (hh : hi ≤ n) : OwnFrom n (RI w b8 b9 gs gm N k lo hi xb yb qb f B Ds S1 M1) := by
  rintro L W W' row h hgr hr
  have ho := grown_row hgr
  have key : ∀ {b : Nat}, row = some b → ∀ cs t, ¬ Blk W b cs t := fun e => by obtain ⟨_, o, h, hc⟩ := hr _ e; exact nblk_of h hc
  exact ⟨h.g.onlyS ho (fun b e => ⟨Nat.le_trans hw (hr b e).1, key e⟩), h.bx.only ho (fun e => key e _ _ h.bx), h.by_.only ho (fun e => key e _ _ h.by_), h.bq.only ho (fun e => key e _ _ h.bq), h.m, h.d.only ho (fun b e => Nat.le_trans hh (hr b e).1)⟩
end
theorem mFold_snoc (k : Nat) (S : List Int) (L : List Nat) (x : Nat) (M : List Int) : (L ++ [x]).foldl (mStep k S) M = mStep k S (L.foldl (mStep k S) M) x := by rw [List.foldl_append]; rfl
/-- The tables and the marks. -/
structure GD (w W : World) (b8 b9 gs gm N : Nat) (S M : List Int) (lo : Nat) (Ds : List Nat) : Prop where
  g : GM w W b8 b9 gs gm N S M
  d : DsI lo W.heap.size Ds W
section
variable {w wr w1 : World} {b8 b9 gs gm N lo : Nat} {S M : List Int} {Ds : List Nat}
theorem GD.ext (h : GD w wr b8 b9 gs gm N S M lo Ds) (k : Ext wr w1) : GD w w1 b8 b9 gs gm N S M lo Ds := ⟨h.g.ext k, (h.d.ext k).size⟩
theorem GD.only (h : GD w wr b8 b9 gs gm N S M lo Ds) {b : Nat} {cs : Array Value} {t : TypeId} (k : Only (fun q => q = b) wr w1) (hb : Blk wr b cs t) (h1 : b ≠ b8 ∧ b ≠ b9 ∧ b ≠ gs ∧ b ≠ gm) (hs : w.heap.size ≤ b) : GD w w1 b8 b9 gs gm N S M lo Ds :=
  ⟨h.g.only k h1 hs, (h.d.blk k hb).size⟩
theorem GD.setS (h : GD w wr b8 b9 gs gm N S M lo Ds) {S' : List Int} (hl : S'.length = S.length) (hb : Blk w1 gs (iA S') 3) (k : Only (fun q => q = gs) wr w1) : GD w w1 b8 b9 gs gm N S' M lo Ds := ⟨h.g.setS hl hb k, (h.d.blk k h.g.hs).size⟩
theorem GD.setM (h : GD w wr b8 b9 gs gm N S M lo Ds) {M' : List Int} (hl : M'.length = M.length) (hb : Blk w1 gm (iA M') 3) (k : Only (fun q => q = gm) wr w1) : GD w w1 b8 b9 gs gm N S M' lo Ds := ⟨h.g.setM hl hb k, (h.d.blk k h.g.hm).size⟩
end
/-- What is read from the box of the round. -/
def boxN (j : Nat) (a : Act) (W : World) : Nat := cellNat (a.tmps[j]?.getD undef) W
theorem boxN_at {j : Nat} {a : Act} {W : World} {x k : Nat} {t : TypeId} (h : a.tmps[j]? = some (.pointer (some ⟨x, 0, none⟩))) (hx : Blk W x #[.int .i64 (k : Int)] t) : boxN j a W = k := by
  unfold boxN; rw [h]; exact cellNat_blk hx
theorem lt_box {j N : Nat} {a b : Act} {W W' : World} {x y k k' : Nat} {t : TypeId} (h1 : a.tmps[j]? = some (.pointer (some ⟨x, 0, none⟩))) (hx : Blk W x #[.int .i64 (k' : Int)] t) (h2 : b.tmps[j]? = some (.pointer (some ⟨y, 0, none⟩))) (hy : Blk W' y #[.int .i64 (k : Int)] t) (hk : k < k') (hN : k < N) :
    N - boxN j a W < N - boxN j b W' := by rw [boxN_at h1 hx, boxN_at h2 hy]; omega
section
variable {w : World} {ops : Array Oper} {rest : List Oper} {o : Oper} {a : Act} {Q : Exit → Act → World → Prop}
theorem wpList_makeI {x y : Operand} (hgd : o.guard = none) (ho : o.op = .makeSlice 22 x y) {n : Nat} (hx : a.eval x = .int .i64 (n : Int)) (hy : a.eval y = .int .i64 (n : Int)) (hN : n ≤ 1000000)
    (h : ∀ b w1, Blk w1 b (iA (List.replicate n 0)) 3 → Ext w w1 → w.heap.size ≤ b → wpList Try.prog ops Q rest (a.put o.dst (.slice (some ⟨b, 0, none⟩) n n)) w1) : wpList Try.prog ops Q (o :: rest) a w :=
  wpList_makeK tInts rfl hgd ho hx hy (by omega) (by rw [Int.toNat_natCast]; omega) (fun b w1 h1 h2 h3 => by
    rw [Int.toNat_natCast] at h1 ⊢
    exact h b w1 (by have e : iA (List.replicate n 0) = (List.replicate n (Value.int .i64 0)).toArray := by simp [iA, iV]
                     rw [e]; exact h1) h2 h3)
end
/-- The outer loop's rounds. -/
structure LI (l : List Int) (w W0 : World) (b8 b9 gs gm N k xb : Nat) (Ds : List Nat) (W : World) : Prop where
  g : GD w W b8 b9 gs gm N (tab l (k - 1)).1 (tab l (k - 1)).2 W0.heap.size Ds
  bx : Blk W xb #[.int .i64 (k : Int)] 3
  far : W0.heap.size ≤ xb
  nd : Ds.Nodup
theorem mRow_no {k : Nat} {S M : List Int} (h : gI S k ≠ 0) : mRow k S M = M.set k (-1) := by unfold mRow; rw [if_pos h]
theorem mRow_yes {k : Nat} {S M : List Int} (h : gI S k = 0) : mRow k S M = (subL k).foldl (mStep k S) (M.set k (-1)) := by unfold mRow; rw [if_neg (fun e => e h)]
theorem tab_succ (l : List Int) (k : Nat) (hk : 1 ≤ k) : tab l k = (sRow l k l.length (tab l (k - 1)).1, mRow k (sRow l k l.length (tab l (k - 1)).1) (tab l (k - 1)).2) := by
  obtain ⟨j, rfl⟩ : ∃ j, k = j + 1 := ⟨k - 1, by omega⟩
  rfl
theorem grp_zero (S M : List Int) (num : Nat) (o : List Int) : ∀ f, grp S M f 0 num o = some o
  | 0 => rfl
  | f + 1 => rfl
theorem grp_go {S M : List Int} {f t : Nat} (h : t ≠ 0) (num : Nat) (o : List Int) : grp S M (f + 1) t num o = grp S M f (t ^^^ bestO S M t) (num + 1) (mark (bestO S M t) num o.length o) := by
  show (if t = 0 then _ else _) = _
  rw [if_neg h]
theorem grp_none {S M : List Int} {t : Nat} (h : t ≠ 0) (num : Nat) (o : List Int) : grp S M 0 t num o = none := by
  show (if t = 0 then _ else _) = _
  rw [if_neg h]
theorem bFold_snoc (S M : List Int) (t : Nat) (L : List Nat) (x : Nat) (b : Nat) : (L ++ [x]).foldl (bStep S M t) b = bStep S M t (L.foldl (bStep S M t) b) x := by rw [List.foldl_append]; rfl
theorem bStep_le {S M : List Int} {t b x : Nat} (hb : b ≤ t) (hx : x ≤ t) : bStep S M t b x ≤ t := by
  unfold bStep
  split
  · exact hb
  · split
    · exact hx
    · exact hb
/-- Between two rounds of the second range. -/
structure RJ (w : World) (b8 b9 gs gm N lo hi tb fb bb qb ob t f : Nat) (Ds : List Nat) (S M o : List Int) (L : List Nat) (W : World) : Prop where
  g : GM w W b8 b9 gs gm N S M
  bt : Blk W tb #[.int .i64 (t : Int)] 3
  bf : Blk W fb #[.int .i64 (f : Int)] 3
  bb_ : Blk W bb #[.int .i64 ((L.foldl (bStep S M t) 0 : Nat) : Int)] 3
  bq : Blk W qb #[.int .i64 (t : Int)] 3
  bo : Blk W ob (iA o) 3
  le : L.foldl (bStep S M t) 0 ≤ t
  d : DsI lo hi Ds W
section
variable {w : World} {b8 b9 gs gm N lo hi tb fb bb qb ob t f : Nat} {Ds : List Nat} {S M o : List Int} {L : List Nat} {W W' : World}
theorem RJ.ext (h : RJ w b8 b9 gs gm N lo hi tb fb bb qb ob t f Ds S M o L W) (x : Ext W W') : RJ w b8 b9 gs gm N lo hi tb fb bb qb ob t f Ds S M o L W' := ⟨h.g.ext x, h.bt.ext x, h.bf.ext x, h.bb_.ext x, h.bq.ext x, h.bo.ext x, h.le, h.d.ext x⟩
theorem RJ.own {n : Nat} (hw : w.heap.size ≤ n) (hh : hi ≤ n) : OwnFrom n (RJ w b8 b9 gs gm N lo hi tb fb bb qb ob t f Ds S M o) := by
  rintro L W W' row h hgr hr
  have ho := grown_row hgr
  have key : ∀ {b : Nat}, row = some b → ∀ cs t, ¬ Blk W b cs t := fun e => by obtain ⟨_, o, h, hc⟩ := hr _ e; exact nblk_of h hc
  exact ⟨h.g.onlyS ho (fun b e => ⟨Nat.le_trans hw (hr b e).1, key e⟩), h.bt.only ho (fun e => key e _ _ h.bt), h.bf.only ho (fun e => key e _ _ h.bf), h.bb_.only ho (fun e => key e _ _ h.bb_), h.bq.only ho (fun e => key e _ _ h.bq), h.bo.only ho (fun e => key e _ _ h.bo), h.le, h.d.only ho (fun b e => Nat.le_trans hh (hr b e).1)⟩
end
/-- The last loop's rounds. -/
structure LJ (l : List Int) (w W0 : World) (b8 b9 gs gm N ob tb t : Nat) (Ds : List Nat) (S M o : List Int) (W : World) : Prop where
  g : GD w W b8 b9 gs gm N S M W0.heap.size Ds
  bo : Blk W ob (iA o) 3
  bt : Blk W tb #[.int .i64 (t : Int)] 3
  fo : W0.heap.size ≤ ob
  ft : W0.heap.size ≤ tb
  ne : ob ≠ tb
  nd : Ds.Nodup
  ol : o.length = l.length
theorem bit_i64 (b i : Nat) (hb : b < 1024) (hi : i ≤ 10) : bits .and .i64 ((b : Int) / 2 ^ i) 1 = ((b >>> i &&& 1 : Nat) : Int) := by
  have : ∀ b : Fin 1024, ∀ i : Fin 11, bits .and .i64 ((b.1 : Int) / 2 ^ i.1) 1 = ((b.1 >>> i.1 &&& 1 : Nat) : Int) := by decide +kernel
  exact this ⟨b, hb⟩ ⟨i, by omega⟩
section
variable {F : Fence} {n : Nat} {P : Program} {w w' : World} {ops : Array Oper} {rest : List Oper} {o : Oper} {a : Act} {Q : Exit → Act → World → Prop}
theorem wpListIn_skp (hgd : o.guard = none) (hnd : ∀ c, o.op ≠ .defer c) (hab : o.about P w a.eval = none) (hr : (execOp a.eval o).run P w = .ok .skip w')
    (h : wpListIn F n P ops Q rest (a.put o.dst undef) w') : wpListIn F n P ops Q (o :: rest) a w := by
  refine wpListIn_plain hgd fun K hK => ?_
  unfold Oper.wpIn
  refine ⟨fun f hf => (by rw [hab] at hf; cases hf), ?_⟩
  rw [Oper.semAt_plain F _ _ hnd, hr, Oper.uponIn_skip]
  exact hK _ _ h
theorem wpListIn_setK (hgd : o.guard = none) {ty : TypeId} {x y : Operand} (ho : o.op = .store ty x y) {b i : Nat} {v : Value} {cs : Array Value} {t : TypeId}
    (hb : Blk w b cs t) (hx : a.eval x = .pointer (some ⟨b, i, none⟩)) (hy : a.eval y = v) (hlt : i < cs.size) (hsz : (P.info? ty).map (·.size) = some 1)
    (hv : v.cells = #[v]) (h1 : v.oneCell' = true)
    (h : ∀ w1, Blk w1 b (cs.setIfInBounds i v) t → Only (fun k => k = b) w w1 → wpListIn F n P ops Q rest (a.put o.dst undef) w1) : wpListIn F n P ops Q (o :: rest) a w := by
  obtain ⟨inf, hinf, hs1⟩ := Option.map_eq_some_iff.1 hsz
  have hc : (w.cell? ⟨b, i, none⟩).isSome = true := by rw [blk_cell hb]; simp [hlt]
  have hf := blk_free hb i
  have hst : (storeVar ty ⟨b, i, none⟩ v).run P w = .ok () (w.setCell ⟨b, i, none⟩ v) := by
    have hs := run_storeCells_cells (P := P) b i [v] 0 w (fun j hj => by have : j = 0 := by simpa using hj
                                                                         subst this; simpa using hc) (fun j hj => by have : j = 0 := by simpa using hj
                                                                                                                     subst this; simpa using hf) (by simpa using h1)
    simp [storeVar, sizeOf, typeInfo, hinf, hv, hs1, hs, World.setCells]
  refine wpListIn_skp hgd (by rw [ho]; intro c hc; cases hc) (by simp [Oper.about, ho]) (w' := w.setCell ⟨b, i, none⟩ v) ?_ (h _ (blk_set hb i v) (Only.set _ _ _ rfl))
  unfold execOp
  simp only [ho, hx, hy, Instr.storeAt, Instr.sureAddr, Sem.run_bind, Sem.run_pure, Result.andThen_ok, hst]
end
/-- What the second range does with a subset, in its cases. -/
theorem bStep_skip {S M : List Int} {t b x : Nat} (h : x &&& lowN t = 0 ∨ gI S x ≠ 0 ∨ gI M (t ^^^ x) + 1 ≠ gI M t) : bStep S M t b x = b := by unfold bStep; rw [if_pos h]
theorem bStep_take {S M : List Int} {t b x : Nat} (h : ¬ (x &&& lowN t = 0 ∨ gI S x ≠ 0 ∨ gI M (t ^^^ x) + 1 ≠ gI M t)) (h2 : b = 0 ∨ lowN (x ^^^ b) &&& x ≠ 0) : bStep S M t b x = x := by unfold bStep; rw [if_neg h, if_pos h2]
theorem bStep_keep {S M : List Int} {t b x : Nat} (h : ¬ (b = 0 ∨ lowN (x ^^^ b) &&& x ≠ 0)) : bStep S M t b x = b := by
  unfold bStep
  by_cases h2 : x &&& lowN t = 0 ∨ gI S x ≠ 0 ∨ gI M (t ^^^ x) + 1 ≠ gI M t
  · rw [if_pos h2]
  · rw [if_neg h2, if_neg h]
/-- A quiet region that draws its order, in a round: by the walk outside. -/
theorem wpIn_region_quietR {P : Program} {n l1 : Nat} {id : Nat} {Q : Exit → Act → World → Prop} {a : Act} {w : World} {l : List Oper} (hm : P.follows .mixedOrders = true) (hB : Region.lexB .any l.toArray = true) (hD : noDefer l.toArray = true) (hL : ¬ LetsOut Q)
    (h : wpQuiet P l.toArray (fun w' => ∃ n, w' = w.drewN n) (fun a' => ∀ w', (∃ n, w' = w.drewN n) → Q .normal a' w') l a) : (Code.region id l.toArray true).wpIn (Fence.wide.inRound l1) n P Q a w := by
  simp only [Region.lexB, Bool.and_eq_true] at hB
  refine wpIn_region_any hm (wpAnyIn_of hD hL _ _ _ _ (wpAny_of_quiet (C := fun w' => ∃ n, w' = w.drewN n) (Q := fun a' => ∀ w', (∃ n, w' = w.drewN n) → Q .normal a' w') (fun _ w' hw' h => h w' hw') _ _ _ _ ⟨1, rfl⟩ ?_))
  have := wpAnyQ_lex (C := fun w' => ∃ n, w' = w.drewN n) (md := .any) hB.1 l 0 (Array.replicate l.length false) a (by simp) (by simpa using hB.2) h
  simpa using this
theorem leavesM_congr {F : Fence} {n : Nat} {P : Program} {fn : Func} {t1 t2 : Array Value} {R : Ending → World → Prop} (h : results fn t1 = results fn t2) : ∀ (ds : List Deferred) (u : FrameMode) (w : World), LeavesInM F n P fn t1 R ds u w → LeavesInM F n P fn t2 R ds u w
  | [], .returning, w, ⟨v, h1, h2⟩ => ⟨v, h ▸ h1, h2⟩
  | [], .panicking chain, w, h1 => h1
  | [], .run, _, h1 => h1.elim
  | d :: ds, u, w, ⟨h1, .inl ⟨r, w', h2, h3, h4⟩⟩ => ⟨h1, .inl ⟨r, w', h2, h3, leavesM_congr h ds _ _ h4⟩⟩
  | d :: ds, u, w, ⟨h1, .inr ⟨h2, fv, cap, f, args, h3, h4, h5, h6⟩⟩ => ⟨h1, .inr ⟨h2, fv, cap, f, args, h3, h4, h5, h6.mono fun e u' w' hh => by
      cases e with
      | returned v => exact leavesM_congr h ds _ _ hh
      | panicked ch => exact leavesM_congr h ds _ _ hh
      | outgrown => exact hh⟩⟩
theorem hQ19 {F : Fence} {n : Nat} {i : Nat} {v : Value} {R : Ending → World → Prop} {c : List PanicEntry} {a : Act} {w : World} (hi : 4 ≤ i) (h : bodyPostM F n Try.prog Try.f19 R (.panic c) (a.put (some i) v) w) : bodyPostM F n Try.prog Try.f19 R (.panic c) a w := by
  refine leavesM_congr (t1 := a.tmps.setIfInBounds i v) ?_ _ _ _ h
  simp [results, Try.results19, Array.getElem?_setIfInBounds_ne (show i ≠ 2 by omega), Array.getElem?_setIfInBounds_ne (show i ≠ 3 by omega)]
end Go.Proofs.Ytekplfbfkfiabaa
