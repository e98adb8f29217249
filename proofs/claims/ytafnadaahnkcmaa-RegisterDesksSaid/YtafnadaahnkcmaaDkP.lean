/- RegisterDesks: the reference's reading, told plainly. -/
import Derived.Test.YtafnadaahnkcmaaDk9
import Derived.Test.YtafnadaahnkcmaaApp2
namespace Go.Proofs.Ytafnadaahnkcmaa
open Go.RowKit
set_option linter.unusedVariables false
set_option linter.unusedSimpArgs false

theorem matchErr_read (d : DeskD) (seen : List Int) (hok : DOk d) : matchErr d.pat seen d.win = readErr d seen := by
  unfold matchErr readErr
  by_cases h : 40 < seen.length
  · rw [if_pos (.inr h), if_pos h]
  · rw [if_neg (fun hh => hh.elim (fun hh => hh ⟨hok.p1, hok.p2⟩) h), if_neg (fun hh => hh hok.good), if_neg h]

/-- The error at loop i is there and within the limit. -/
def rIn (d : DeskD) (seen : List Int) (i : Nat) : Prop := rErr d seen i ≠ lostN ∧ -d.limit ≤ rErr d seen i ∧ rErr d seen i ≤ d.limit
theorem rIn_lost {d : DeskD} {seen : List Int} {i : Nat} {x : Int} (hx : x = rErr d seen i) (h : x = lostN) : ¬ rIn d seen i := fun hh => hh.1 (hx ▸ h)
theorem rIn_out {d : DeskD} {seen : List Int} {i : Nat} {x : Int} (hx : x = rErr d seen i) (h : ¬ inB x (-d.limit) d.limit = true) : ¬ rIn d seen i := fun hh => h (by subst hx; exact (inB_iff _ _ _).2 hh.2)
theorem rIn_in {d : DeskD} {seen : List Int} {i : Nat} {x : Int} (hx : x = rErr d seen i) (h1 : x ≠ lostN) (h : inB x (-d.limit) d.limit = true) : rIn d seen i := by subst hx; exact ⟨h1, (inB_iff _ _ _).1 h⟩
theorem good_no {g gq : Bool} {P : Prop} (hq : gq = false) (h : ¬ P) : gq = true ↔ g = true ∧ P := ⟨fun e => (by rw [hq] at e; cases e), fun e => (h e.2).elim⟩
theorem good_yes {g gq : Bool} {P : Prop} (hq : gq = g) (h : P) : gq = true ↔ g = true ∧ P := by rw [hq]; exact ⟨fun e => ⟨e, h⟩, fun e => e.1⟩
/-- Where the reference's reading stands in the round over the loops. -/
structure RfInv (we : World) (cb : Nat) (d : DeskD) (seen : List Int) (s0 : Int) (k : Nat) (g : Bool) (ve vm : Value) (wr : World) : Prop where
  only : Only (fun b => b = cb ∨ we.heap.size ≤ b) we wr
  blk : Blk wr cb #[.bool g, .int .i64 s0, ve, vm] 74
  re : wr.ownsRow we.heap.size 3 1 ve k ((rErrs d seen k).map (.int .i64))
  rm : wr.ownsRow we.heap.size 3 1 vm k ((rMovs d seen k).map (.int .i64))
  dj : ∀ b, ve.ownBlock = some b → vm.ownBlock = some b → False
  good : g = true ↔ rIs d seen = true ∧ ∀ i, i < k → rIn d seen i

theorem RfInv.start {we : World} {cb : Nat} {d : DeskD} {seen : List Int} {s0 : Int} {g : Bool} (h : Blk we cb #[.bool g, .int .i64 s0, .slice none 0 0, .slice none 0 0] 74) (hg : g = rIs d seen) :
    RfInv we cb d seen s0 0 g (.slice none 0 0) (.slice none 0 0) we :=
  ⟨Only.refl _ _, h, World.ownsRow_nil _ _ _ _, World.ownsRow_nil _ _ _ _, fun b h => (by cases h), ⟨fun h => ⟨hg ▸ h, fun i hi => by omega⟩, fun h => hg.trans h.1⟩⟩
theorem RfInv.ext {we wr w' : World} {cb : Nat} {d : DeskD} {seen : List Int} {s0 : Int} {k : Nat} {g : Bool} {ve vm : Value} (h : RfInv we cb d seen s0 k g ve vm wr) (k' : Ext wr w') : RfInv we cb d seen s0 k g ve vm w' :=
  { h with only := h.only.tr (Only.of_ext k'), blk := h.blk.ext k', re := owns_ext h.re k', rm := owns_ext h.rm k' }

/-- Like RfInv, between two rounds: what the block and the rows hold is free. -/
structure RfMid (we : World) (cb : Nat) (cs : Array Value) (ve vm : Value) (ne nm : Nat) (xe xm : List Value) (wr : World) : Prop where
  only : Only (fun b => b = cb ∨ we.heap.size ≤ b) we wr
  cbl : cb < we.heap.size
  blk : Blk wr cb cs 74
  re : wr.ownsRow we.heap.size 3 1 ve ne xe
  rm : wr.ownsRow we.heap.size 3 1 vm nm xm
  dj : ∀ b, ve.ownBlock = some b → vm.ownBlock = some b → False
section
variable {we wr w' : World} {cb ne nm : Nat} {cs : Array Value} {ve vm : Value} {xe xm : List Value}
theorem RfInv.mid {d : DeskD} {seen : List Int} {s0 : Int} {k : Nat} {g : Bool} (h : RfInv we cb d seen s0 k g ve vm wr) (hcl : cb < we.heap.size) :
    RfMid we cb #[.bool g, .int .i64 s0, ve, vm] ve vm k k ((rErrs d seen k).map (.int .i64)) ((rMovs d seen k).map (.int .i64)) wr :=
  ⟨h.only, hcl, h.blk, h.re, h.rm, h.dj⟩
theorem RfMid.ext (h : RfMid we cb cs ve vm ne nm xe xm wr) (k' : Ext wr w') : RfMid we cb cs ve vm ne nm xe xm w' :=
  { h with only := h.only.tr (Only.of_ext k'), blk := h.blk.ext k', re := owns_ext h.re k', rm := owns_ext h.rm k' }
theorem RfMid.set (h : RfMid we cb cs ve vm ne nm xe xm wr) {cs' : Array Value} (hb : Blk w' cb cs' 74) (k : Only (fun b => b = cb) wr w') : RfMid we cb cs' ve vm ne nm xe xm w' :=
  { h with
    only := h.only.tr (k.weak fun b _ e => .inl e)
    blk := hb
    re := owns_only h.re k fun b hb e => by have := (h.re.lt b hb).1; have := h.cbl; omega
    rm := owns_only h.rm k fun b hb e => by have := (h.rm.lt b hb).1; have := h.cbl; omega }
theorem RfMid.app1 (h : RfMid we cb cs ve vm ne nm xe xm wr) {v' : Value} {n' : Nat} {x' : List Value} (ho : w'.ownsRow we.heap.size 3 1 v' n' x') (hg : wr.grownBy w' ve.ownBlock) (hf : FreshOr wr ve v') : RfMid we cb cs v' vm n' nm x' xm w' :=
  have k : Only (fun b => ve.ownBlock = some b) wr w' := only_grown hg
  { h with
    only := h.only.tr (k.weak fun b _ e => .inr (h.re.lt b e).1)
    blk := h.blk.only k (fun e => by have := (h.re.lt cb e).1; have := h.cbl; omega)
    re := ho
    rm := owns_only h.rm k fun b hb e => h.dj b e hb
    dj := fun b hb hb2 => by
      rcases hf with hf | ⟨c, hc, hle⟩
      · rw [hf] at hb; exact h.dj b hb hb2
      · rw [hc] at hb; cases hb; have := (h.rm.lt _ hb2).2; omega }
theorem RfMid.app2 (h : RfMid we cb cs ve vm ne nm xe xm wr) {v' : Value} {n' : Nat} {x' : List Value} (ho : w'.ownsRow we.heap.size 3 1 v' n' x') (hg : wr.grownBy w' vm.ownBlock) (hf : FreshOr wr vm v') : RfMid we cb cs ve v' ne n' xe x' w' :=
  have k : Only (fun b => vm.ownBlock = some b) wr w' := only_grown hg
  { h with
    only := h.only.tr (k.weak fun b _ e => .inr (h.rm.lt b e).1)
    blk := h.blk.only k (fun e => by have := (h.rm.lt cb e).1; have := h.cbl; omega)
    re := owns_only h.re k fun b hb e => h.dj b hb e
    rm := ho
    dj := fun b hb hb2 => by
      rcases hf with hf | ⟨c, hc, hle⟩
      · rw [hf] at hb2; exact h.dj b hb hb2
      · rw [hc] at hb2; cases hb2; have := (h.re.lt _ hb).2; omega }
theorem RfInv.next {d : DeskD} {seen : List Int} {s0 : Int} {k : Nat} {g g' : Bool} (hg : g = true ↔ rIs d seen = true ∧ ∀ i, i < k → rIn d seen i) (hg' : g' = true ↔ g = true ∧ rIn d seen k)
    (h : RfMid we cb #[.bool g', .int .i64 s0, ve, vm] ve vm (k + 1) (k + 1) ((rErrs d seen k).map (.int .i64) ++ [.int .i64 (rErr d seen k)]) ((rMovs d seen k).map (.int .i64) ++ [.int .i64 (rMov d seen k)]) wr) : RfInv we cb d seen s0 (k + 1) g' ve vm wr :=
  ⟨h.only, h.blk, by rw [rErrs_succ, List.map_append]; exact h.re, by rw [rMovs_succ, List.map_append]; exact h.rm, h.dj, by
    rw [hg', hg]
    constructor
    · rintro ⟨⟨h1, h2⟩, h3⟩
      refine ⟨h1, fun i hi => ?_⟩
      rcases Nat.lt_or_ge i k with h4 | h4
      · exact h2 i h4
      · obtain rfl : i = k := by omega
        exact h3
    · rintro ⟨h1, h2⟩
      exact ⟨⟨h1, fun i hi => h2 i (by omega)⟩, h2 k (by omega)⟩⟩
end
/-- In the end. -/
theorem RfInv.done {we wr : World} {cb : Nat} {d : DeskD} {seen : List Int} {s0 : Int} {g : Bool} {ve vm : Value} (h : RfInv we cb d seen s0 d.n g ve vm wr) (hok : DOk d) : g = rGood d seen := by
  have h1 := h.good
  have h2 := rGood_iff d seen hok
  cases g
  · cases hg : rGood d seen
    · rfl
    · rw [hg] at h2; exact (h1.2 (h2.1 rfl)).symm ▸ rfl
  · exact (h2.2 (h1.1 rfl)).symm

theorem Src.ext {size m : Nat} {w w' : World} {y : Value} {news : List Value} (h : Src size w y m news) (k : Ext w w') : Src size w' y m news := by
  obtain ⟨h1, a, c, h2, h3, h4⟩ := h
  exact ⟨h1, a, c, h2, h3, fun ad e j u hj => k.cellSome (h4 ad e j u hj)⟩
theorem tRCopies : SliceT Try.prog 69 74 (.agg #[.bool false, .int .i64 0, .slice none 0 0, .slice none 0 0]) 4 64 := ⟨by kernel_rfl, by kernel_rfl, rfl, by decide, by decide⟩
theorem cpL_one (cs : List CopyD) (es ms : Nat → Value) (n : Nat) (h : ∀ i, i < n → (∃ a l c, es i = .slice a l c) ∧ ∃ a l c, ms i = .slice a l c) : ∀ u ∈ cpL cs es ms n, u.oneCell' = true := fun u hu => by
  unfold cpL at hu
  obtain ⟨i, hi, hu⟩ := List.mem_flatMap.1 hu
  obtain ⟨⟨a, l, c, h1⟩, a2, l2, c2, h2⟩ := h i (List.mem_range.1 hi)
  unfold cpC at hu
  rw [h1, h2] at hu
  simp at hu
  rcases hu with rfl | rfl | rfl | rfl <;> rfl
/-- A copy more. -/
theorem CpsIn.snoc {R R' : Nat → Prop} {w : World} {B : Nat} {cs : List CopyD} {c : CopyD} {es ms : Nat → Value} {v ve vm : Value} (hR : ∀ b, R b → R' b)
    (hi : ∀ i, i < cs.length → (Ints w (es i) (cs.getD i default).errs ∧ Ints w (ms i) (cs.getD i default).moves) ∧ ∀ b, (es i).ownBlock = some b ∨ (ms i).ownBlock = some b → R b)
    (he : Ints w ve c.errs) (hm : Ints w vm c.moves) (hn : ∀ b, v.ownBlock = some b ∨ ve.ownBlock = some b ∨ vm.ownBlock = some b → R' b)
    (ho : w.ownsRow B 74 4 v (cs.length + 1) (cpL cs es ms cs.length ++ cpC c ve vm)) : CpsIn R' w v (cs ++ [c]) := by
  have hlen : (cs ++ [c]).length = cs.length + 1 := by simp
  refine CpsIn.of_owns (es := upd es cs.length ve) (ms := upd ms cs.length vm) (B := B) (by rw [hlen, cpL_snoc]; exact ho) (fun b hb => hn b (.inl hb)) fun i hlt => ?_
  rw [hlen] at hlt
  by_cases e : i = cs.length
  · subst e
    rw [upd_same, upd_same, show (cs ++ [c]).getD cs.length default = c by simp [List.getD]]
    exact ⟨⟨he, hm⟩, fun b hb => hn b (.inr hb)⟩
  · rw [upd_other _ _ _ _ e, upd_other _ _ _ _ e, show (cs ++ [c]).getD i default = cs.getD i default by simp [List.getD, List.getElem?_append_left (show i < cs.length by omega)]]
    exact ⟨(hi i (by omega)).1, fun b hb => hR b ((hi i (by omega)).2 b hb)⟩
theorem take_snoc (xs : List Int) (j : Nat) (hj : j < xs.length) : (xs.take j).map (Value.int .i64) ++ [.int .i64 (gD xs j)] = (xs.take (j + 1)).map (.int .i64) := by
  rw [List.take_succ_eq_append_getElem hj, List.map_append, gD_lt hj]
  rfl
theorem mvs_get (d : DeskD) (i j : Nat) (hj : j < d.copies.length) : gD (mvs d i) j = gD (d.copies.getD j default).moves i := by
  rw [gD_lt (by rw [mvs_len]; exact hj)]
  simp [mvs, List.getD, hj]

section
variable {P : Program} {w : World} {ops : Array Oper} {rest : List Oper} {o : Oper} {a : Act} {Q : Exit → Act → World → Prop} {K : Act → World → Prop} {E : Prop}
/-- A struct is stored whole into a block of the call's own, in a region that draws. -/
theorem step_storeK (hgd : o.guard = none) {ty : TypeId} {x y : Operand} (ho : o.op = .store ty x y) {b : Nat} {cells old : Array Value} {t : TypeId}
    (hb : Blk w b old t) (hx : a.eval x = .pointer (some ⟨b, 0, none⟩)) (hy : a.eval y = .agg cells) (hi : (P.info? ty).map (·.size) = some cells.size)
    (hold : old.size = cells.size) (h1 : cells.all (·.oneCell') = true)
    (h : ∀ w1, Blk w1 b cells t → Only (fun k => k = b) w w1 → K (a.put o.dst undef) w1) :
    if Region.wanted o (yielded ops a.tmps) = true then Oper.wp P o a w K Q else E := by
  have hw : Region.wanted o (yielded ops a.tmps) = true := by simp [Region.wanted, hgd]
  rw [if_pos hw]
  exact wp_store_row ty x y ho b cells hx hy t old hb hi hold h1 (h _ (setRow_heap w b old cells t (0, 0) hb)
    ⟨rfl, rfl, rfl, by simp [World.setRow], fun k _ hk => setRow_other w b k cells hk⟩)
/-- An empty slice is built. -/
theorem wpList_build0 {t e : TypeId} {z : Value} {size bytes : Nat} (T : SliceT P t e z size bytes) (hgd : o.guard = none) (ho : o.op = .buildSlice t 0 #[])
    (h : ∀ v w', Ext w w' → w'.ownsRow w.heap.size e size v 0 [] → wpList P ops Q rest (a.put o.dst v) w') : wpList P ops Q (o :: rest) a w := by
  obtain ⟨ht, hinfo, hzs, hpos, hbyt⟩ := T
  obtain ⟨i, hi, hp⟩ := Option.map_eq_some_iff.1 hinfo
  simp only [Prod.mk.injEq] at hp
  obtain ⟨hz, hsz, hby⟩ := hp
  refine wpList_plain hgd fun K hK => ?_
  unfold Oper.wp execOp
  have hr : (Instr.buildSlice t 0 #[]).run P w = .ok (.slice (some ⟨w.heap.size, 0, none⟩) 0 0) (w.alloc (.cells #[] e)) := by
    simp [Instr.buildSlice, run_underlying ht, sizeOf, typeInfo, hi, Instr.fill, newRow]
    have : Array.range 0 = #[] := by simp
    rw [this]; simp
  simp only [ho, Sem.run_bind, Array.map_empty, hr, Result.andThen_ok]
  refine hK _ _ (h _ _ (ext_lit w _ _) ⟨by simp, .inr ⟨w.heap.size, 0, #[], rfl, Nat.le_refl _, heap_alloc_new w _, Nat.le_refl _, Nat.zero_le _, by simp, by simp⟩⟩)
end
end Go.Proofs.Ytafnadaahnkcmaa
