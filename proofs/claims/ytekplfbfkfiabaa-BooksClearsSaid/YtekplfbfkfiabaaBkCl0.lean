/- What Close's loop keeps in memory. -/
import Derived.Test.YtekplfbfkfiabaaBkUndo
namespace Go.Proofs.Ytekplfbfkfiabaa
open Go.RowKit
set_option linter.unusedVariables false
set_option linter.unusedSimpArgs false

def iV (l : List Int) : List Value := l.map (.int .i64)
structure CL (w W0 wr : World) (B lb bb fb eb wb nb : Nat) (d0 d' : LedD) (m m' : LMem) (vs vc vd : Value) (ks cs ds : List Int) : Prop where
  led : LSt wr B lb d' m'
  bx : Blk wr bb #[.pointer (some ⟨lb, 0, none⟩)] 48
  fx : Blk wr fb #[vd] 22
  ex : Blk wr eb #[.int .i64 0] 25
  wx : Blk wr wb (balC d0).toArray 95
  nx : Blk wr nb #[.int .i64 d0.ents.length] 3
  dif : wr.ownsRow W0.heap.size 3 1 vd ds.length (iV ds)
  sk : Ints wr vs ks
  ci : Ints wr vc cs
  mab : m'.ab = m.ab
  mva : m'.va = m.va
  fresh : FreshOr w m.ve m'.ve
  nb1 : ∀ b, m'.ve.ownBlock = some b → b ≠ bb ∧ b ≠ fb ∧ b ≠ eb ∧ b ≠ wb ∧ b ≠ nb ∧ vs.ownBlock ≠ some b ∧ vc.ownBlock ≠ some b
  nd : ∀ b, vd.ownBlock = some b → m'.ve.ownBlock ≠ some b
  only : Only (fun k => k = lb ∨ m.ve.ownBlock = some k) w wr
  sz : W0.heap.size ≤ wr.heap.size
  far : lb < w.heap.size ∧ w.heap.size ≤ bb ∧ bb < fb ∧ fb < eb ∧ eb < wb ∧ eb < nb ∧ wb ≠ nb ∧ wb < W0.heap.size ∧ nb < W0.heap.size
  lab : m.ab < w.heap.size ∧ ∀ b, m.va.ownBlock = some b → b < w.heap.size
  vcl : ∀ b, vc.ownBlock = some b → b ≠ lb ∧ b < w.heap.size
  vsl : ∀ b, vs.ownBlock = some b → eb < b ∧ b ≠ wb ∧ b ≠ nb ∧ b < W0.heap.size
section
variable {w W0 wr w1 w2 : World} {B lb bb fb eb wb nb : Nat} {d0 d' : LedD} {m m' : LMem} {vs vc vd vd' : Value} {ks cs ds : List Int}
theorem CL.ext (h : CL w W0 wr B lb bb fb eb wb nb d0 d' m m' vs vc vd ks cs ds) (k : Ext wr w1) : CL w W0 w1 B lb bb fb eb wb nb d0 d' m m' vs vc vd ks cs ds :=
  ⟨h.led.ext k, h.bx.ext k, h.fx.ext k, h.ex.ext k, h.wx.ext k, h.nx.ext k, owns_ext h.dif k, h.sk.ext k, h.ci.ext k, h.mab, h.mva, h.fresh, h.nb1, h.nd, h.only.then (S := fun _ => False) (Only.of_ext k) (fun _ _ h => h.elim), Nat.le_trans h.sz k.size, h.far, h.lab, h.vcl, h.vsl⟩
theorem Sl.only {w w' : World} {v : Value} {xs : List Value} {S : Nat → Prop} (h : Sl w v xs) (k : Only S w w') (hs : ∀ b, v.ownBlock = some b → ¬ S b) : Sl w' v xs := by
  obtain ⟨h0, a, c, h1, hn, h2⟩ := h
  refine ⟨h0, a, c, h1, hn, fun h3 => ?_⟩
  obtain ⟨b, o, h4, h5⟩ := h2 h3
  exact ⟨b, o, h4, fun i u hu => k.cell (h5 i u hu) (hs b (by rw [h1, h4]; rfl))⟩
/-- A number more. -/
theorem CL.pushed (h : CL w W0 wr B lb bb fb eb wb nb d0 d' m m' vs vc vd ks cs ds) {x : Int} (ho : w1.ownsRow W0.heap.size 3 1 vd' (ds.length + 1) (iV ds ++ [.int .i64 x]))
    (hg : wr.grownBy w1 vd.ownBlock) (hf : FreshOr wr vd vd') (hb : Blk w2 fb #[vd'] 22) (hon : Only (fun k => k = fb) w1 w2) : CL w W0 w2 B lb bb fb eb wb nb d0 d' m m' vs vc vd' ks cs (ds ++ [x]) := by
  obtain ⟨f1, f2, f3, f4, f5, f6, f7, f8, f9⟩ := h.far
  have o1 : Only (fun k => k = fb ∨ vd.ownBlock = some k) wr w2 := ((only_grown hg).weak fun k _ hk => .inr hk).tr (hon.weak fun k _ hk => .inl hk)
  have hdl : ∀ b, vd.ownBlock = some b → W0.heap.size ≤ b := fun b hb => (h.dif.lt b hb).1
  have nS : ∀ b, b < W0.heap.size → b ≠ fb → ¬ (b = fb ∨ vd.ownBlock = some b) := fun b hb1 hb2 hb3 => by
    rcases hb3 with e | e
    · exact hb2 e
    · have := hdl b e; omega
  have hve : ∀ b, m'.ve.ownBlock = some b → ¬ (b = fb ∨ vd.ownBlock = some b) := fun b hb1 hb2 => by
    rcases hb2 with e | e
    · exact (h.nb1 b hb1).2.1 e
    · exact h.nd b e hb1
  have hnew : ∀ b, vd'.ownBlock = some b → W0.heap.size ≤ b := fun b hb => (ho.lt b hb).1
  refine ⟨h.led.only o1 (nS _ (by omega) (by omega)) (by rw [h.mab]; have := h.lab.1; exact nS _ (by omega) (by omega)) (fun b hb => by rw [h.mva] at hb; have := h.lab.2 b hb; exact nS _ (by omega) (by omega)) hve,
    h.bx.only o1 (nS _ (by omega) (by omega)), hb, h.ex.only o1 (nS _ (by omega) (by omega)), h.wx.only o1 (nS _ (by omega) (by omega)), h.nx.only o1 (nS _ (by omega) (by omega)), ?_, Sl.only h.sk o1 (fun b hb => nS _ (h.vsl b hb).2.2.2 (by have := (h.vsl b hb).1; omega)),
    Sl.only h.ci o1 (fun b hb => nS _ (by have := (h.vcl b hb).2; omega) (by have := (h.vcl b hb).2; omega)), h.mab, h.mva, h.fresh, h.nb1, ?_, ?_, Nat.le_trans h.sz o1.size, h.far, h.lab, h.vcl, h.vsl⟩
  · have e1 : (ds ++ [x]).length = ds.length + 1 := by simp
    have e2 : iV (ds ++ [x]) = iV ds ++ [.int .i64 x] := by simp [iV]
    rw [e1, e2]
    exact owns_only ho hon fun b hb e => by have := hnew b hb; omega
  · intro b hb1 hb2
    rcases hf with e | ⟨g, e, hl⟩
    · rw [e] at hb1; exact h.nd b hb1 hb2
    · rw [e] at hb1; cases hb1
      have := (h.led.ents.lt _ hb2).2
      omega
  · refine h.only.then o1 fun k hk hs => ?_
    rcases hs with e | e
    · omega
    · have := hdl k e; have := h.sz; have := h.only.size; omega
/-- An entry more. -/
theorem CL.posted (h : CL w W0 wr B lb bb fb eb wb nb d0 d' m m' vs vc vd ks cs ds) (hW : w.heap.size ≤ W0.heap.size) {d2 : LedD} {v' : Value} (hl : LSt w2 B lb d2 { m' with ve := v' }) (hf : FreshOr wr m'.ve v')
    (ho : Only (fun k => k = lb ∨ m'.ve.ownBlock = some k) wr w2) : CL w W0 w2 B lb bb fb eb wb nb d0 d2 m { m' with ve := v' } vs vc vd ks cs ds := by
  obtain ⟨f1, f2, f3, f4, f5, f6, f7, f8, f9⟩ := h.far
  have nS : ∀ b, b ≠ lb → m'.ve.ownBlock ≠ some b → ¬ (b = lb ∨ m'.ve.ownBlock = some b) := fun b h1 h2 h3 => h3.elim h1 h2
  have nM : ∀ q : Nat, (∀ b, m'.ve.ownBlock = some b → b ≠ q) → m'.ve.ownBlock ≠ some q := fun q h e => h q e rfl
  have bxS := nM bb fun b hb => (h.nb1 b hb).1
  have fxS := nM fb fun b hb => (h.nb1 b hb).2.1
  have exS := nM eb fun b hb => (h.nb1 b hb).2.2.1
  have wxS := nM wb fun b hb => (h.nb1 b hb).2.2.2.1
  have nxS := nM nb fun b hb => (h.nb1 b hb).2.2.2.2.1
  have fr : FreshOr w m.ve v' := by
    rcases hf with e | ⟨g, e, hg⟩
    · rcases h.fresh with e2 | ⟨g, e2, hg⟩
      · exact .inl (e.trans e2)
      · exact .inr ⟨g, e.trans e2, hg⟩
    · exact .inr ⟨g, e, Nat.le_trans h.only.size hg⟩
  refine ⟨hl, h.bx.only ho (nS _ (by omega) bxS), h.fx.only ho (nS _ (by omega) fxS), h.ex.only ho (nS _ (by omega) exS), h.wx.only ho (nS _ (by omega) wxS), h.nx.only ho (nS _ (by omega) nxS),
    owns_only h.dif ho (fun b hb => nS _ (by have := (h.dif.lt b hb).1; omega) (h.nd b hb)), Sl.only h.sk ho (fun b hb => nS _ (by have := (h.vsl b hb).1; omega) (fun e => (h.nb1 b e).2.2.2.2.2.1 hb)), Sl.only h.ci ho (fun b hb => nS _ (h.vcl b hb).1 (fun e => (h.nb1 b e).2.2.2.2.2.2 hb)), h.mab, h.mva, fr, ?_, ?_, ?_, Nat.le_trans h.sz ho.size, h.far, h.lab, h.vcl, h.vsl⟩
  · intro b hb
    rcases hf with e | ⟨g, e, hg⟩
    · exact h.nb1 b (by rw [← e]; exact hb)
    · have e2 : v'.ownBlock = some b := hb
      rw [e] at e2; cases e2
      have := h.sz
      refine ⟨by omega, by omega, by omega, by omega, by omega, fun e => ?_, fun e => ?_⟩
      · have := (h.vsl _ e).2.2.2; omega
      · have := (h.vcl _ e).2; omega
  · intro b hb hb2
    rcases hf with e | ⟨g, e, hg⟩
    · exact h.nd b hb (by rw [← e]; exact hb2)
    · have e2 : v'.ownBlock = some b := hb2
      rw [e] at e2; cases e2
      have := (h.dif.lt _ hb).2
      omega
  · refine h.only.then ho fun k hk hs => ?_
    rcases hs with e | e
    · exact .inl e
    · rcases h.fresh with e2 | ⟨g, e2, hg⟩
      · exact .inr (e2 ▸ e)
      · rw [e2] at e; cases e; omega
end
section
variable {P : Program} {w : World} {ops : Array Oper} {o : Oper} {a : Act} {Q : Exit → Act → World → Prop} {K : Act → World → Prop} {E : Prop}
theorem step_alloc1 (hgd : o.guard = none) {t : TypeId} (ho : o.op = .alloc t) {z : Value} (hz : ∀ w : World, (zeroValue t).run P w = .ok z w) (hv : z.cells = #[z])
    (h : ∀ b w1, Blk w1 b #[z] t → Ext w w1 → w.heap.size ≤ b → K (a.put o.dst (.pointer (some ⟨b, 0, none⟩))) w1) :
    if Region.wanted o (yielded ops a.tmps) = true then Oper.wp P o a w K Q else E := by
  have hw : Region.wanted o (yielded ops a.tmps) = true := by simp [Region.wanted, hgd]
  rw [if_pos hw]
  have hr : (execOp a.eval o).run P w = .ok (.value (.pointer (some ⟨w.heap.size, 0, none⟩))) (w.alloc (.cells #[z] t)) := by
    unfold execOp; rw [ho]; simp only [Instr.alloc, Sem.run_bind, hz, Result.andThen]; unfold newVar; rw [hv]; rfl
  unfold Oper.wp; rw [hr]
  exact h _ _ (newB w #[z] t).1 (newB w #[z] t).2.1 (newB w #[z] t).2.2
end
/-- The beginning of a row of the call's own. -/
theorem owns_take {w : World} {B : Nat} {e : TypeId} {z : Nat} {a : Option Addr} {n n' c : Nat} {xs : List Value} (h : w.ownsRow B e z (.slice a n' c) n' xs) (hn : n ≤ n') (h0 : a = none → n = 0 ∧ c = 0) : w.ownsRow B e z (.slice a n c) n (xs.take (n * z)) := by
  have hle : n * z ≤ n' * z := Nat.mul_le_mul_right z hn
  refine ⟨by rw [List.length_take, h.1]; omega, ?_⟩
  rcases h.2 with ⟨hv, e0⟩ | ⟨g, cap, cur, hv, hg, hh, h1, h2, h3, h4⟩
  · injection hv with e1 e2 e3
    obtain ⟨e4, e5⟩ := h0 e1
    exact .inl ⟨by rw [e1, e4, e5], e4⟩
  · injection hv with e1 e2 e3
    refine .inr ⟨g, cap, cur, by rw [e1, e3], hg, hh, by omega, h2, h3, ?_⟩
    rw [← h4, List.take_take, Nat.min_eq_left hle]
theorem owns_cap {w : World} {B : Nat} {e : TypeId} {z : Nat} {a : Option Addr} {n c : Nat} {xs : List Value} (h : w.ownsRow B e z (.slice a n c) n xs) : n ≤ c ∧ (a = none → n = 0 ∧ c = 0) := by
  rcases h.2 with ⟨hv, e0⟩ | ⟨g, cap, cur, hv, hg, hh, h1, h2, h3, h4⟩
  · injection hv with e1 e2 e3
    exact ⟨by omega, fun _ => ⟨e0, e3⟩⟩
  · injection hv with e1 e2 e3
    exact ⟨by omega, fun h => by rw [e1] at h; cases h⟩
theorem flat_take {α : Type} {z : Nat} {f : α → List Value} (hz : ∀ x, (f x).length = z) (xs : List α) (n : Nat) (hn : n ≤ xs.length) : (xs.flatMap f).take (n * z) = (xs.take n).flatMap f := by
  induction xs generalizing n with
  | nil => simp
  | cons x xs ih =>
    cases n with
    | zero => simp
    | succ n =>
      rw [List.flatMap_cons, List.take_succ_cons, List.flatMap_cons, Nat.succ_mul, Nat.add_comm, List.take_append]
      rw [hz, Nat.add_sub_cancel_left, ih n (by simpa using hn), List.take_of_length_le (by rw [hz]; omega)]
theorem zip_drop {α β : Type} {ks : List α} {cs : List β} (i : Nat) (h : i < ks.length) (h' : i < cs.length) : (ks.zip cs).drop i = (ks[i], cs[i]) :: (ks.zip cs).drop (i + 1) := by
  have hl : i < (ks.zip cs).length := by rw [List.length_zip]; omega
  rw [List.drop_eq_getElem_cons hl, List.getElem_zip]
theorem ledA_closed (d : LedD) (m : LMem) (day : Int) : (ledA d m).setIfInBounds 43 (.int .i64 day) = ledA { d with closed := day } m := by
  unfold ledA
  rw [List.setIfInBounds_toArray]
  congr 1
section
variable {w W0 wr w1 w2 : World} {B lb bb fb eb wb nb : Nat} {d0 d' : LedD} {m m' : LMem} {vs vc vd : Value} {ks cs ds : List Int}
/-- Behind the stores of an error. -/
theorem CL.errd (h : CL w W0 wr B lb bb fb eb wb nb d0 d' m m' vs vc vd ks cs ds) (ho : Only (fun k => k = fb ∨ k = eb) wr w1) :
    LSt w1 B lb d' m' ∧ Blk w1 bb #[.pointer (some ⟨lb, 0, none⟩)] 48 ∧ Blk w1 wb (balC d0).toArray 95 ∧ Blk w1 nb #[.int .i64 d0.ents.length] 3 ∧
    w1.ownsRow W0.heap.size 3 1 vd ds.length (iV ds) ∧
    (fb ≠ wb ∧ fb ≠ bb ∧ fb ≠ nb ∧ fb ≠ lb ∧ lb ≠ wb ∧ lb ≠ bb ∧ lb ≠ nb ∧ eb ≠ lb ∧ eb ≠ fb) ∧ Only (fun k => k = lb ∨ m.ve.ownBlock = some k) w w1 := by
  obtain ⟨f1, f2, f3, f4, f5, f6, f7, f8, f9⟩ := h.far
  have nS : ∀ b, b ≠ fb → b ≠ eb → ¬ (b = fb ∨ b = eb) := fun b h1 h2 h3 => h3.elim h1 h2
  have e1 := h.lab.1
  refine ⟨h.led.only ho (nS _ (by omega) (by omega)) (by rw [h.mab]; exact nS _ (by omega) (by omega)) (fun b hb => by rw [h.mva] at hb; have := h.lab.2 b hb; exact nS _ (by omega) (by omega)) (fun b hb => nS _ (h.nb1 b hb).2.1 (h.nb1 b hb).2.2.1),
    h.bx.only ho (nS _ (by omega) (by omega)), h.wx.only ho (nS _ (by omega) (by omega)), h.nx.only ho (nS _ (by omega) (by omega)), owns_only h.dif ho (fun b hb => by have := (h.dif.lt b hb).1; exact nS _ (by omega) (by omega)), ⟨by omega, by omega, by omega, by omega, by omega, by omega, by omega, by omega, by omega⟩,
    h.only.then ho fun k hk hs => by rcases hs with e | e <;> omega⟩
/-- All is as it was. -/
theorem CL.undone (h : CL w W0 wr B lb bb fb eb wb nb d0 d' m m' vs vc vd ks cs ds) (hs : d'.acc = d0.acc ∧ d'.key = d0.key ∧ d'.closed = d0.closed ∧ d'.ents.take d0.ents.length = d0.ents) {aE : Option Addr} {cE : Nat} (hve : m'.ve = .slice aE d'.ents.length cE)
    (ho1 : Only (fun k => k = fb ∨ k = eb) wr w1) (ho2 : Only (fun k => k = lb ∨ k = fb) w1 w2) (hb : Blk w2 lb ((putL (ledA d' m') 3 (balC d0)).setIfInBounds 2 (.slice aE d0.ents.length cE)) 97) :
    LSt w2 B lb d0 { m' with ve := .slice aE d0.ents.length cE } ∧ FreshOr w m.ve (.slice aE d0.ents.length cE) ∧ Only (fun k => k = lb ∨ m.ve.ownBlock = some k) w w2 := by
  obtain ⟨h1, h2, h3, h4, h5, ⟨n1, n2, n3, n4, n5, n6, n7, n8, n9⟩, h6⟩ := h.errd ho1
  obtain ⟨f1, f2, f3, f4, f5, f6, f7, f8, f9⟩ := h.far
  have e1 := h.lab.1
  have hle : d0.ents.length ≤ d'.ents.length := by
    have := congrArg List.length hs.2.2.2
    rw [List.length_take] at this
    omega
  have hob : (Value.slice aE d0.ents.length cE).ownBlock = m'.ve.ownBlock := by rw [hve]; cases aE <;> rfl
  have nS : ∀ b, b ≠ lb → b ≠ fb → ¬ (b = lb ∨ b = fb) := fun b h1 h2 h3 => h3.elim h1 h2
  have nve : ∀ b, m'.ve.ownBlock = some b → b ≠ lb ∧ b ≠ m'.ab ∧ m'.va.ownBlock ≠ some b := h1.nve
  refine ⟨⟨h1.blt, ?_, h1.acc.only ho2 (nS _ h1.nab (by rw [h.mab]; omega)), ?_, ?_, h1.nab, h1.nva, fun b hb => nve b (hob ▸ hb)⟩, ?_, h6.then ho2 fun k hk hs => ?_⟩
  · rw [ledA_back d0 d' m' _ hs.2.1 hs.2.2.1] at hb; exact hb
  · rw [← hs.1]
    exact StIn.only accC_len h1.row ho2 (fun b hb => nS _ (h1.nva b hb) (by rw [h.mva] at hb; have := h.lab.2 b hb; omega))
  · have h7 := owns_only h1.ents ho2 (fun b hb => nS _ (nve b hb).1 (h.nb1 b hb).2.1)
    rw [hve] at h7
    have h8 := owns_take h7 hle (owns_cap h7 |>.2 · |> fun h => ⟨by omega, h.2⟩)
    rw [flat_take sigC_len _ _ hle, hs.2.2.2] at h8
    exact h8
  · rcases h.fresh with e | ⟨g, e, hg⟩
    · exact .inl (hob.trans e)
    · exact .inr ⟨g, hob.trans e, hg⟩
  · rcases hs with e | e
    · exact .inl e
    · omega
/-- The day is closed. -/
theorem CL.closedD (h : CL w W0 wr B lb bb fb eb wb nb d0 d' m m' vs vc vd ks cs ds) (hW : w.heap.size ≤ W0.heap.size) {day : Int} (hb : Blk w1 lb ((ledA d' m').setIfInBounds 43 (.int .i64 day)) 97) (ho1 : Only (fun k => k = lb) wr w1) (ho2 : Only (fun k => k = fb ∨ k = eb) w1 w2) :
    LSt w2 B lb { d' with closed := day } m' ∧ w2.ownsRow w.heap.size 3 1 vd ds.length (iV ds) ∧ Only (fun k => k = lb ∨ m.ve.ownBlock = some k) w w2 := by
  obtain ⟨f1, f2, f3, f4, f5, f6, f7, f8, f9⟩ := h.far
  have e1 := h.lab.1
  have nS : ∀ b, b ≠ fb → b ≠ eb → ¬ (b = fb ∨ b = eb) := fun b h1 h2 h3 => h3.elim h1 h2
  rw [ledA_closed] at hb
  refine ⟨⟨h.led.blt, Blk.only hb ho2 (nS _ (by omega) (by omega)), (h.led.acc.only ho1 h.led.nab).only ho2 (by rw [h.mab]; exact nS _ (by omega) (by omega)), ?_, ?_, h.led.nab, h.led.nva, h.led.nve⟩, ?_, ?_⟩
  · exact StIn.only accC_len (StIn.only accC_len h.led.row ho1 (fun b hb => h.led.nva b hb)) ho2 (fun b hb => by rw [h.mva] at hb; have := h.lab.2 b hb; exact nS _ (by omega) (by omega))
  · exact owns_only (owns_only h.led.ents ho1 (fun b hb => (h.led.nve b hb).1)) ho2 (fun b hb => nS _ (h.nb1 b hb).2.1 (h.nb1 b hb).2.2.1)
  · exact owns_weak (owns_only (owns_only h.dif ho1 (fun b hb e => by have := (h.dif.lt b hb).1; omega)) ho2 (fun b hb => by have := (h.dif.lt b hb).1; exact nS _ (by omega) (by omega))) hW
  · refine (h.only.then ho1 fun k hk hs => .inl hs).then ho2 fun k hk hs => ?_
    rcases hs with e | e <;> omega
end
end Go.Proofs.Ytekplfbfkfiabaa
