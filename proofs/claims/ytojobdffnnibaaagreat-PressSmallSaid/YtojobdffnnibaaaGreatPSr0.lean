/- What the search keeps in memory. -/
import Derived.Test.YtojobdffnnibaaaGreatJ8
import Derived.Test.YtojobdffnnibaaaGreatPIn
namespace Go.Proofs.YtojobdffnnibaaaGreat
open Go.RowKit Go.Shelf
set_option linter.unusedVariables false
set_option linter.unusedSimpArgs false
theorem tSteps : SliceT Tryz.prog 87 93 (.agg #[.pointer none, .int .i64 0, .int .i64 0, .int .i64 0]) 4 32 := ⟨by kernel_rfl, by kernel_rfl, rfl, by decide, by decide⟩
instance : Inhabited StepD := ⟨⟨⟨0, false, [], 0⟩, 0, 0, 0⟩⟩
/-- The cells of a step whose press lies at m. -/
def stC (m : Nat) (x : StepD) : List Value := [.pointer (some ⟨m, 0, none⟩), .int .i64 x.kind, .int .i64 x.unit, .int .i64 x.from_]
def stL (f : Nat → Nat) (l : List StepD) : List Value := (List.range l.length).flatMap fun j => stC (f j) (l.getD j default)
theorem stL_snoc (f : Nat → Nat) (l : List StepD) (x : StepD) (m : Nat) : stL (upd f l.length m) (l ++ [x]) = stL f l ++ stC m x := by
 unfold stL; rw [List.length_append, List.length_singleton, List.range_succ, List.flatMap_append]
 congr 1
 { refine flat_congr fun j hj => ?_; have hj := List.mem_range.1 hj; rw [upd_other _ _ _ _ (by omega)]; simp [List.getD, List.getElem?_append_left hj] }
 · simp [upd_same, List.getD]
theorem stL_get (f : Nat → Nat) (l : List StepD) (i j : Nat) (hi : i < l.length) (hj : j < 4) : (stL f l)[i * 4 + j]? = (stC (f i) l[i])[j]? := by
 unfold stL; rw [flat_get (f := fun j => stC (f j) (l.getD j default)) (fun _ => rfl) l.length i j hi hj]; simp [List.getD, hi]
/-- A block that is of no press at work. -/
def NotM (B : Nat) (w : World) (b : Nat) : Prop := B ≤ b ∧ ∀ cs t, Blk w b cs t → t ≠ 139 ∧ t ≠ 34 ∧ t ≠ 82
theorem NotM.of_blk {B : Nat} {w : World} {b : Nat} {cs : Array Value} {t : TypeId} (h : Blk w b cs t) (hB : B ≤ b) (ht : t ≠ 139 ∧ t ≠ 34 ∧ t ≠ 82) : NotM B w b :=
 ⟨hB, fun cs' t' h' => by rw [← blk_ty h h']; exact ht⟩
theorem NotM.of_obj {B : Nat} {w : World} {b : Nat} {o : Obj} (h : w.heap[b]? = some o) (hB : B ≤ b) (ho : o.isCells = false) : NotM B w b :=
 ⟨hB, fun cs t h' => by have h2 := h.symm.trans h'; cases h2; cases ho⟩
theorem MOw.notM {B : Nat} {w w' : World} {mb pb ub c : Nat} {p : PressD} {s : StD} {vj : Value} {S : Nat → Prop} (h : MOw B w mb pb ub c p s vj) (k : Only S w w') (hs : ∀ b, S b → NotM B w b) : MOw B w' mb pb ub c p s vj := by
 obtain ⟨cs, hb, _⟩ := h.bu; exact h.only k (fun e => ((hs _ e).2 _ _ h.bm).1 rfl) (fun e => ((hs _ e).2 _ _ h.bp).2.1 rfl) (fun e => ((hs _ e).2 _ _ hb).2.2 rfl) (fun b hb e => by have := (hs _ e).1; omega)
/-- The row of steps, with the presses. -/
def SrRow (B n0 pb : Nat) (p : PressD) (vj : Value) (l : List StepD) (v : Value) (w : World) : Prop :=
 ∃ f fu fc : Nat → Nat, w.ownsRow n0 93 4 v l.length (stL f l) ∧ ∀ j (h : j < l.length), MOw B w (f j) pb (fu j) (fc j) p l[j].at_ vj
theorem SrRow.only {B n0 pb : Nat} {p : PressD} {vj : Value} {l : List StepD} {v : Value} {w w' : World} {S : Nat → Prop} (h : SrRow B n0 pb p vj l v w) (k : Only S w w') (hs : ∀ b, S b → NotM B w b) (hv : ∀ b, v.ownBlock = some b → ¬ S b) : SrRow B n0 pb p vj l v w' := by
 obtain ⟨f, fu, fc, h1, h2⟩ := h; exact ⟨f, fu, fc, owns_only h1 k hv, fun j hj => (h2 j hj).notM k hs⟩
theorem SrRow.snoc {B n0 pb : Nat} {p : PressD} {vj : Value} {l : List StepD} {v' : Value} {w' : World} {f fu fc : Nat → Nat} {m u c : Nat} {x : StepD} (hm : ∀ j (h : j < l.length), MOw B w' (f j) pb (fu j) (fc j) p l[j].at_ vj)
 (ho : w'.ownsRow n0 93 4 v' (l.length + 1) (stL f l ++ stC m x)) (hx : MOw B w' m pb u c p x.at_ vj) : SrRow B n0 pb p vj (l ++ [x]) v' w' := by
 refine ⟨upd f l.length m, upd fu l.length u, upd fc l.length c, ?_, fun j hj => ?_⟩
 · rw [stL_snoc, List.length_append, List.length_singleton]; exact ho
 {
 rw [List.length_append, List.length_singleton] at hj
 by_cases hjl : j < l.length
 · rw [upd_other _ _ _ _ (by omega), upd_other _ _ _ _ (by omega), upd_other _ _ _ _ (by omega), List.getElem_append_left hjl]
   exact hm j hjl
 {
 obtain rfl : j = l.length := (by omega); rw [upd_same, upd_same, upd_same, List.getElem_append_right (Nat.le_refl _)]
 simpa using hx
 }
 }
/-- All that the search keeps. -/
structure SrI (B n0 pb ab qb gb nU : Nat) (p : PressD) (vj : Value) (w0 : World) (l : List StepD) (w : World) : Prop where
 row : ∃ v, Blk w ab #[v] 87 ∧ SrRow B n0 pb p vj l v w
 seen : Blk w qb #[.map (some gb)] 145
 map : MapR Tryz.prog 105 w gb (seenL l)
 ext : Ext w0 w
 apart : Apart l
 units : ∀ t ∈ l, t.at_.units.length = nU
/-- What is turned is of no concern to the search. -/
def Free (B ab qb gb : Nat) (w : World) (b : Nat) : Prop := NotM B w b ∧ b ≠ ab ∧ b ≠ qb ∧ b ≠ gb ∧ (∀ cs, ¬ Blk w b cs 93)
theorem SrI.only {B n0 pb ab qb gb nU : Nat} {p : PressD} {vj : Value} {w0 : World} {l : List StepD} {w w' : World} {S : Nat → Prop} (h : SrI B n0 pb ab qb gb nU p vj w0 l w) (k : Only S w w') (hs : ∀ b, S b → Free B ab qb gb w b) (hn : ∀ b, S b → w0.heap.size ≤ b) :
 SrI B n0 pb ab qb gb nU p vj w0 l w' := by
 obtain ⟨⟨v, h1, h2⟩, h3, h4, h5, h6, h7⟩ := h; refine ⟨⟨v, h1.only k (fun e => (hs _ e).2.1 rfl), h2.only k (fun b e => (hs b e).1) (fun b hb e => ?_)⟩, h3.only k (fun e => (hs _ e).2.2.1 rfl), h4.only k (fun e => (hs _ e).2.2.2.1 rfl), h5.then_only k hn, h6, h7⟩; obtain ⟨f, fu, fc, ho, _⟩ := h2
 rcases ho.2 with ⟨hv, _⟩ | ⟨g, cap, cur, hv, _, hgb, _⟩
 · rw [hv] at hb; cases hb
 · rw [hv] at hb; cases hb
   exact (hs _ e).2.2.2.2 _ hgb
theorem SrI.ext' {B n0 pb ab qb gb nU : Nat} {p : PressD} {vj : Value} {w0 : World} {l : List StepD} {w w' : World} (h : SrI B n0 pb ab qb gb nU p vj w0 l w) (k : Ext w w') : SrI B n0 pb ab qb gb nU p vj w0 l w' :=
 h.only (S := fun _ => False) (Only.of_ext k) (fun _ h => h.elim) (fun _ h => h.elim)
theorem free_obj {B ab qb gb : Nat} {w : World} {b : Nat} {o : Obj} {va vq : Value} (ha : Blk w ab #[va] 87) (hq : Blk w qb #[vq] 145) (hg : gb < b) (h : w.heap[b]? = some o) (ho : o.isCells = false) (hB : B ≤ b) : Free B ab qb gb w b :=
 ⟨NotM.of_obj h hB ho, (fun e => by subst e; have h2 := h.symm.trans ha; cases h2; cases ho), (fun e => by subst e; have h2 := h.symm.trans hq; cases h2; cases ho), (fun e => by omega), (fun cs hb => by have h2 := h.symm.trans hb; cases h2; cases ho)⟩
theorem leaves_marks {F : Fence} {n : Nat} {P : Program} {fn : Func} {tmps : Array Value} {R : Ending → World → Prop} : ∀ (Ds : List Nat) (w : World), Ds.Nodup → (∀ D ∈ Ds, w.heap[D]? = some (.deferred (some []))) →
 (∀ w', Only (fun b => b ∈ Ds) w w' → LeavesIn F n P fn tmps R [] .returning w') → LeavesInM F n P fn tmps R (Ds.map fun D => { target := .collected D, args := #[] }) .returning w
 | [], w, _, _, h => h w (Only.refl _ _)
 | D :: Ds, w, hn, hd, h => by
   rw [List.nodup_cons] at hn; have h1 := hd D (by simp); refine ⟨by simp, .inl ⟨D, _, rfl, run_takeDeferred h1, ?_⟩⟩; have hlt : D < w.heap.size := (Array.getElem?_eq_some_iff.1 h1).1
   have ho : Only (fun b => b ∈ D :: Ds) w (w.putObj D (.deferred none)) := by
    have hg := grownBy_putObj' w D (.deferred none); exact ⟨hg.os, hg.tape, hg.output, hg.size, fun k hk hs => hg.block k hk (fun e => by cases e; exact hs (by simp))⟩
   refine leaves_marks Ds _ hn.2 (fun D' hD' => ?_) fun w' hw' => h w' (ho.tr (hw'.weak fun k _ hk => List.mem_cons_of_mem _ hk)); exact (World.putObj_heap_other (fun (e : _ = _) => hn.1 (by first | (rw [e]; exact hD') | (rw [← e]; exact hD')))).trans (hd D' (List.mem_cons_of_mem _ hD'))
/-- What is read from the box of the round. -/
def ixOf (a : Act) (w : World) : Nat := match a.tmps[9]?.getD undef with | .pointer (some ad) => (match w.cell? ad with | some v => (intOf v).toNat | none => 0) | _ => 0
theorem ixOf_at {a : Act} {w : World} {x i : Nat} (h : a.tmps[9]? = some (.pointer (some ⟨x, 0, none⟩))) (hc : w.cell? ⟨x, 0, none⟩ = some (.int .i64 i)) : ixOf a w = i := by
 unfold ixOf; rw [h]; simp [hc, intOf]
theorem lt_meas {a b : Act} {w w' : World} {i x y : Nat} (h1 : a.tmps[9]? = some (.pointer (some ⟨x, 0, none⟩))) (h2 : w.cell? ⟨x, 0, none⟩ = some (.int .i64 ((i + 1 : Nat) : Int))) (h3 : b.tmps[9]? = some (.pointer (some ⟨y, 0, none⟩))) (h4 : w'.cell? ⟨y, 0, none⟩ = some (.int .i64 i)) (hi : i < 40000) :
 40000 - ixOf a w < 40000 - ixOf b w' := by
 rw [ixOf_at h1 h2, ixOf_at h3 h4]; omega
def marks (Ds : List Nat) : List Deferred := Ds.map fun D => { target := .collected D, args := #[] }
theorem actD_len (p : PressD) (s : StD) (k x : Int) : (actD p s k x).units.length = s.units.length := by
 unfold actD
 split
 {
 unfold doD
 repeat' split
 all_goals (try rfl)
 dsimp only; rw [List.length_set]
 }
 rfl
theorem addStep_le (p : PressD) (i : Nat) (s : StD) (l : List StepD) (a : Int × Nat) : l.length ≤ (addStep p i s l a).length := by
 unfold addStep
 split
 {
 dsimp only
 split
 · exact Nat.le_refl _
 · simp
 }
 · exact Nat.le_refl _
theorem foldl_le (p : PressD) (i : Nat) (s : StD) : ∀ (ks : List (Int × Nat)) (l : List StepD), l.length ≤ (ks.foldl (addStep p i s) l).length := by
 intro ks
 induction ks with
 | nil => intro l; exact Nat.le_refl _
 | cons k ks ih => intro l; exact Nat.le_trans (addStep_le p i s l k) (ih _)
theorem expandD_le (p : PressD) (i : Nat) (s : StD) (l : List StepD) : l.length ≤ (expandD p i s l).length := foldl_le p i s _ l
theorem searchD_hit {p : PressD} {done : StD → Bool} {f i : Nat} {l : List StepD} (h : i < l.length) (hd : done l[i].at_ = true) : searchD p done (f + 1) i l = (l, (i:Int)) := by
 unfold searchD; rw [List.getElem?_eq_getElem h]; dsimp only; rw [if_pos hd]
theorem searchD_on {p : PressD} {done : StD → Bool} {f i : Nat} {l : List StepD} (h : i < l.length) (hd : done l[i].at_ = false) : searchD p done (f + 1) i l = searchD p done f (i + 1) (expandD p i l[i].at_ l) := by
 conv => lhs; unfold searchD
 rw [List.getElem?_eq_getElem h]; dsimp only; rw [if_neg (by simp [hd])]
theorem searchD_end {p : PressD} {done : StD → Bool} {f i : Nat} {l : List StepD} (h : l.length ≤ i) : searchD p done (f + 1) i l = (l, -1) := by
 unfold searchD; rw [List.getElem?_eq_none h]
theorem LiveM.only {B mb pb ub c xb : Nat} {p : PressD} {t : StD} {vj : Value} {w w' : World} {S : Nat → Prop} (h : LiveM B mb pb ub c xb p t vj w) (k : Only S w w') (hs : ∀ b, S b → NotM B w b) (hx : ¬ S xb) : LiveM B mb pb ub c xb p t vj w' :=
 ⟨h.1.notM k hs, h.2.only k hx⟩
theorem stepY_apart {p : PressD} {t : StD} {i : Nat} {l : List StepD} {x : YA} (h : actErr p t x.kind x.unit = 0) (h2 : x.nx = actD p t x.kind x.unit) (ha : Apart l) : Apart (stepY i l x) := by
 rw [← stepY_add h h2]; exact addStep_apart ha
theorem keeps_ext {B : Nat} {w w' : World} (h : Ext w w') : KeepsFrom B w w' := ⟨h.size, fun k o _ hk _ => h.blk hk⟩
theorem keeps_one {B b : Nat} {w w' : World} (h : Only (fun k => k = b) w w') (hb : b < B) : KeepsFrom B w w' := ⟨h.size, fun k o hB hk _ => h.heap hk (fun e => by omega)⟩
theorem keeps_cells {B : Nat} {S : Nat → Prop} {w w' : World} (h : Only S w w') (hs : ∀ b, S b → ∃ cs t, Blk w b cs t) : KeepsFrom B w w' :=
 ⟨h.size, fun k o _ hk ho => h.heap hk (fun e => by
  obtain ⟨cs, t, hb⟩ := hs k e; have h2 := hk.symm.trans hb
  cases h2
  cases ho)⟩
theorem ne_map {P : Program} {k : TypeId} {w : World} {b gb : Nat} {cs : Array Value} {t : TypeId} {l : List (Value × Value)} (hb : Blk w b cs t) (hm : MapR P k w gb l) : b ≠ gb := fun e => by
 subst e; obtain ⟨_, es, c, h, _⟩ := hm; have h2 := hb.symm.trans h
 cases h2
theorem notM_map {P : Program} {k : TypeId} {w : World} {B gb : Nat} {l : List (Value × Value)} (hm : MapR P k w gb l) (hB : B ≤ gb) : NotM B w gb := by
 obtain ⟨_, es, c, h, _⟩ := hm; exact NotM.of_obj h hB rfl
theorem row_blk {w : World} {base : Nat} {e : TypeId} {size n : Nat} {v : Value} {xs : List Value} (h : w.ownsRow base e size v n xs) : ∀ b, v.ownBlock = some b → base ≤ b ∧ ∃ cs, Blk w b cs e := fun b hb => by
 rcases h.2 with ⟨hv, _⟩ | ⟨g, cap, cur, hv, hg, hgb, _⟩
 · rw [hv] at hb; cases hb
 · rw [hv] at hb; cases hb
   exact ⟨hg, cur, hgb⟩
theorem SrI.add {B n0 pb ab qb gb nU : Nat} {p : PressD} {vj : Value} {w0 : World} {l : List StepD} {w3 w4 w5 w6 w7 : World} {v v' : Value} {f fu fc : Nat → Nat} {x : StepD} {m u c : Nat} (h : SrI B n0 pb ab qb gb nU p vj w0 l w3) (hn : n0 = w0.heap.size) (hB : B ≤ n0) (hg0 : n0 ≤ gb) (ha0 : n0 ≤ ab)
 (hab : Blk w3 ab #[v] 87) (hown : w3.ownsRow n0 93 4 v l.length (stL f l)) (hms : ∀ j (h : j < l.length), MOw B w3 (f j) pb (fu j) (fc j) p l[j].at_ vj) (hx : MOw B w3 m pb u c p x.at_ vj)
 (hm4 : MapR Tryz.prog 105 w4 gb (seenL l ++ [(sitV x.at_, .bool true)])) (o4 : Only (fun b => b = gb) w3 w4) (x5 : Ext w4 w5)
 (hr6 : w6.ownsRow n0 93 4 v' (l.length + 1) (stL f l ++ stC m x)) (o6 : Only (fun b => v.ownBlock = some b) w5 w6) (hb7 : Blk w7 ab #[v'] 87) (o7 : Only (fun b => b = ab) w6 w7) (hap : Apart (l ++ [x])) (hun : x.at_.units.length = nU) :
 SrI B n0 pb ab qb gb nU p vj w0 (l ++ [x]) w7 ∧ (∀ m' u' c' t', MOw B w3 m' pb u' c' p t' vj → MOw B w7 m' pb u' c' p t' vj) ∧ (∀ b cs t, Blk w3 b cs t → t ≠ 93 → b ≠ ab → Blk w7 b cs t) := by
 have ngb : NotM B w3 gb := notM_map h.map (by omega); have hrb : ∀ b, v.ownBlock = some b → n0 ≤ b ∧ ∃ cs, Blk w3 b cs 93 := row_blk hown; have hown5 : w5.ownsRow n0 93 4 v l.length (stL f l) := owns_ext (owns_only hown o4 (fun b hb (e : b = gb) => by obtain ⟨_, cs, hb2⟩ := hrb b hb; exact ne_map hb2 h.map e)) x5; have hrb5 : ∀ b, v.ownBlock = some b → n0 ≤ b ∧ ∃ cs, Blk w5 b cs 93 := row_blk hown5; have hab6 : Blk w6 ab #[v] 87 := ((hab.only o4 (ne_map hab h.map)).ext x5).only o6 (fun e => by obtain ⟨_, cs, hb2⟩ := hrb ab e; exact absurd (blk_ty hab hb2) (by decide))
 have mv : ∀ m' u' c' t', MOw B w3 m' pb u' c' p t' vj → MOw B w7 m' pb u' c' p t' vj := fun m' u' c' t' hm =>
  ((((hm.notM o4 (fun b (e : b = gb) => by rw [e]; exact ngb)).ext x5).notM o6 (fun b hb => by obtain ⟨h1, cs, h2⟩ := hrb5 b hb; exact NotM.of_blk h2 (by omega) (by decide))).notM o7 (fun b (e : b = ab) => by rw [e]; exact NotM.of_blk hab6 (by omega) (by decide)))
 have bv : ∀ b cs t, Blk w3 b cs t → t ≠ 93 → b ≠ ab → Blk w7 b cs t := fun b cs t hb ht hne =>
  ((((hb.only o4 (ne_map hb h.map)).ext x5).only o6 (fun e => by obtain ⟨_, cs2, hb2⟩ := hrb b e; exact ht (blk_ty hb hb2))).only o7 hne)
 refine ⟨⟨⟨v', hb7, SrRow.snoc (fun j hj => mv _ _ _ _ (hms j hj)) (owns_only hr6 o7 (fun b hb (e : b = ab) => ?_)) (mv _ _ _ _ hx)⟩, ?_, ?_, ?_, hap, ?_⟩, mv, bv⟩
 { obtain ⟨_, cs, hb2⟩ := row_blk hr6 b hb; rw [e] at hb2; exact absurd (blk_ty hab6 hb2) (by decide) }
 · exact bv qb _ _ h.seen (by decide) (fun e => absurd (blk_ty h.seen (e ▸ hab)) (by decide))
 { have e1 : seenL (l ++ [x]) = seenL l ++ [(sitV x.at_, .bool true)] := (by unfold seenL; rw [List.map_append]; rfl); rw [e1]; refine (((hm4.ext x5).only o6 (fun e => ?_)).only o7 (fun e => ne_map hab h.map e.symm)); obtain ⟨_, cs, hb2⟩ := hrb gb e; exact ne_map hb2 h.map rfl }
 { refine (((h.ext.then_only o4 (fun b (e : b = gb) => by omega)).tr x5).then_only o6 (fun b hb => ?_)).then_only o7 (fun b (e : b = ab) => by omega); obtain ⟨h1, _⟩ := hrb b hb; omega }
 {
 intro t ht
 rcases List.mem_append.1 ht with ht | ht
 · exact h.units t ht
 · rw [List.mem_singleton.1 ht]; exact hun
 }
theorem grown_row {w w' : World} {row : Option Nat} (hg : w.grownBy w' row) : Only (fun b => row = some b) w w' :=
 ⟨hg.os, hg.tape, hg.output, hg.size, fun k hk hs => hg.block k hk (fun e => hs e.symm)⟩
/-- The marks of the rounds that are done. -/
def DsI (gb N : Nat) (Ds : List Nat) (W : World) : Prop := ∀ D ∈ Ds, gb < D ∧ D < N ∧ W.heap[D]? = some (.deferred (some []))
theorem DsI.ext {gb N : Nat} {Ds : List Nat} {W W' : World} (h : DsI gb N Ds W) (k : Ext W W') : DsI gb N Ds W' := fun D hD => ⟨(h D hD).1, (h D hD).2.1, k.blk (h D hD).2.2⟩
theorem DsI.keeps {gb N : Nat} {Ds : List Nat} {W W' : World} (h : DsI gb N Ds W) (k : KeepsFrom (gb + 1) W W') : DsI gb N Ds W' := fun D hD => ⟨(h D hD).1, (h D hD).2.1, k.same D _ (h D hD).1 (h D hD).2.2 rfl⟩
theorem keeps_mono {B B' : Nat} {W W' : World} (h : KeepsFrom B W W') (hb : B ≤ B') : KeepsFrom B' W W' := ⟨h.size, fun k o hB hk ho => h.same k o (Nat.le_trans hb hB) hk ho⟩
/-- Between two rounds. -/
def RndI (B n0 pb ab qb gb nU ib i m u c xb N : Nat) (Ds : List Nat) (p : PressD) (t : StD) (vj : Value) (w0 : World) (l : List StepD) (w : World) : Prop :=
 SrI B n0 pb ab qb gb nU p vj w0 l w ∧ Blk w ib #[.int .i64 i] 3 ∧ LiveM B m pb u c xb p t vj w ∧ DsI gb N Ds w
theorem RndI.own {B n0 pb ab qb gb nU ib i m u c xb : Nat} {Ds : List Nat} {p : PressD} {t : StD} {vj : Value} {w0 wx : World} (hB : B ≤ n0) (hx : n0 ≤ wx.heap.size) (hw : w0.heap.size ≤ wx.heap.size) (hg : gb < wx.heap.size) :
 OwnFrom wx.heap.size (RndI B n0 pb ab qb gb nU ib i m u c xb wx.heap.size Ds p t vj w0) := by
 rintro l W W' row ⟨h1, h2, h3, h4⟩ hgr hr; have ho := grown_row hgr; obtain ⟨v, hab, _⟩ := h1.row
 have key : ∀ {b : Nat} {cs : Array Value} {ty : TypeId}, Blk W b cs ty → ¬ row = some b := fun hb e => by
  obtain ⟨_, o, h, hc⟩ := hr _ e; have h2 := hb.symm.trans h
  cases h2
  cases hc
 refine ⟨h1.only ho (fun b e => ?_) (fun b e => Nat.le_trans hw (hr b e).1), h2.only ho (key h2), h3.only ho (fun b e => ?_) (key h3.2), fun D hD => ⟨(h4 D hD).1, (h4 D hD).2.1, ho.heap (h4 D hD).2.2 (fun e => by have h5 := (hr D e).1; have h6 := (h4 D hD).2.1; omega)⟩⟩
 · obtain ⟨hle, o, h, hc⟩ := hr b e
   exact free_obj hab h1.seen (by omega) h hc (by omega)
 · obtain ⟨hle, o, h, hc⟩ := hr b e
   exact NotM.of_obj h (by omega) hc
theorem LiveY.only {B pb : Nat} {p : PressD} {t : StD} {vj : Value} {x : YA} {w w' : World} {S : Nat → Prop} (h : LiveY B pb p t vj x w) (k : Only S w w') (hs : ∀ b, S b → NotM B w b) : LiveY B pb p t vj x w' :=
 ⟨h.1.notM k hs, h.2⟩
theorem RndI.ext' {B n0 pb ab qb gb nU ib i m u c xb N : Nat} {Ds : List Nat} {p : PressD} {t : StD} {vj : Value} {w0 w w' : World} {l : List StepD} (h : RndI B n0 pb ab qb gb nU ib i m u c xb N Ds p t vj w0 l w) (k : Ext w w') : RndI B n0 pb ab qb gb nU ib i m u c xb N Ds p t vj w0 l w' :=
 ⟨h.1.ext' k, h.2.1.ext k, ⟨h.2.2.1.1.ext k, h.2.2.1.2.ext k⟩, h.2.2.2.ext k⟩
theorem foldl_two (T : Array Value) (p0 p1 : Tmp) (v0 v1 : Value) : Array.foldl (fun (t : Array Value) (x : Tmp × Value) => match x with | (p, v) => t.setIfInBounds p v) T (#[p0, p1].zip #[v0, v1]) = (T.setIfInBounds p0 v0).setIfInBounds p1 v1 := by simp
end Go.Proofs.YtojobdffnnibaaaGreat