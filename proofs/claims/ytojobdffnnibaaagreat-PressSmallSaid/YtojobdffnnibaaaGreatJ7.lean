/- A range over a function whose rounds are handed fresh memory: the round is asked only of what lives where it is handed over. The body always goes on. Built on the kit's steps of the statement (the record, a round, the end). A range over a function whose rounds are handed fresh memory, and whose body may return. -/
import Derived.Test.YtojobdffnnibaaaGreatPAct2
import Derived.RangeFuncNested
import Derived.RangeFuncBound
import Derived.RangeFuncCalls
import Derived.RangeFuncLeaves
import Derived.Shelf.Abstract
import Derived.Shelf.RegionOpen
import Derived.OwnWalkIn
import Derived.TacticsInMore
import Derived.LoopNIn
import Derived.LoopIn
namespace Go.Proofs.YtojobdffnnibaaaGreat
open Go.RowKit Go.Shelf
set_option linter.unusedVariables false
/-- An iterator that hands over what lives (R) as long as what it reads is kept (M): the caller's state goes from s0 to s1. -/
def IterGives {α σ : Type} (n : Nat) (P : Program) (g : Nat) (lb : Array Value) (encs : α → Array Value) (M : World → Prop) (R : α → World → Prop) (step : σ → α → σ) (s0 s1 : σ) (w : World) : Prop :=
 ∀ (l : Nat) (J : σ → World → Prop) (W : World), Ext w W → (∀ s A B, J s A → Ext A B → J s B) → (∀ s A, J s A → M A) →
  (∀ s x A, J s A → R x A → YieldAt Fence.wide (n - 1) P l (encs x) A fun e A' => e = .returned (.bool true) ∧ J (step s x) A') →
  J s0 W → CallsIn Fence.wide n P g (#[.func (.yield l) #[] #[]] ++ lb) W fun e W' => (∃ v, e = .returned v) ∧ J s1 W'
/-- How a round is left: off its end. -/
def goesOn {σ : Type} (B : Nat) (I : σ → World → Prop) (s : σ) (W : World) : Exit → Act → World → Prop
 | .normal, _, W' => KeepsFrom B W W' ∧ I s W'
 | _, _, _ => False
theorem wpIn_rangeLive {α σ : Type} {P : Program} {n : Nat} {g : Operand} {ps : Array Tmp} {assign body : Code} {Q : Exit → Act → World → Prop} {a : Act} {w : World} (h1 : 1 ≤ n)
 {gf : Nat} {lb : Array Value} (hg : a.eval g = .func (.func gf) #[] lb) (eg : ∀ args w, (callFunc gf args).run P w = .ok (.enter gf args) w)
 {encs : α → Array Value} {M : World → Prop} {R : α → World → Prop} {step : σ → α → σ} {s0 s1 : σ} {w0 : World} (hit : IterGives (n - 1) P gf lb encs M R step s0 s1 w0) (hx0 : Ext w0 w) (hps : ∀ x, (encs x).size = ps.size)
 (I : σ → World → Prop) (hI : OwnFrom w.heap.size I) (hM : ∀ s A, I s A → M A) (h0 : I s0 w) (Ax : σ → α → Act → World → Prop) (hAx : ∀ s x, OwnFrom w.heap.size (Ax s x))
 (hassign : ∀ (l : Nat) (s : σ) (x : α) (W : World) (K : Act → World → Prop), I s W → R x W → (∀ a1 W1, KeepsFrom w.heap.size W W1 → Ax s x a1 W1 → K a1 W1) →
   assign.wpIn (Fence.wide.inRound l) (n - 1 - 1) P (Exit.then K (fun _ _ _ => False)) { tmps := (ps.zip (encs x)).foldl (fun t (p, v) => t.setIfInBounds p v) a.tmps, defers := [] } W)
 (hbody : ∀ (l : Nat) (s : σ) (x : α) (a1 : Act) (W : World), Ax s x a1 W → body.wpIn (Fence.wide.inRound l) (n - 1 - 1) P (goesOn w.heap.size I (step s x) W) a1 W)
 (hdone : ∀ (D : Nat) (W : World), w.heap.size ≤ D → I s1 W → W.heap[D]? = some (.deferred (some [])) → Q .normal { a with defers := { target := .collected D, args := #[] } :: a.defers } W) :
 (Code.rangeFunc g ps assign body).wpIn Fence.wide n P Q a w := by
 refine wpIn_rangeFunc fun fn hfn => ?_
 -- the record at rest and at work
 let rest : Loop := { state := .ready, pending := none, fn, tmps := a.tmps, params := ps, assign, body, defers := w.heap.size }
 let busy : Loop := { rest with state := .busy }
 let l := w.heap.size + 1
 let W1 := (w.alloc (.deferred (some []))).alloc (.loop rest)
 let J : σ → World → Prop := fun s W => I s W ∧ W.heap[l]? = some (.loop rest) ∧ W.heap[w.heap.size]? = some (.deferred (some []))
 have hJ0 : J s0 W1 := by
  refine ⟨hI.alloc _ (hI.alloc _ h0), ?_, ?_⟩
  · have := World.alloc_heap_new (w.alloc (.deferred (some []))) (.loop rest)
    rwa [World.size_alloc] at this
  · exact (Below.heap_alloc _ _ _ (by simp)).trans (World.alloc_heap_new w _)
 have hJx : ∀ s A B, J s A → Ext A B → J s B := fun s A B ⟨h2, h3, h4⟩ hx =>
  ⟨hI s A B none h2 (⟨hx.os, hx.tape, hx.output, hx.size, fun k hk _ => hx.block k hk⟩) (fun r e => by cases e), hx.blk h3, hx.blk h4⟩
 have hx1 : Ext w0 W1 := (hx0.alloc _).alloc _; refine ⟨l, [{ target := .collected w.heap.size, args := #[] }], W1, { target := .fn (.func gf) lb, args := #[.func (.yield l) #[] #[]] }, W1, gf, #[.func (.yield l) #[] #[]] ++ lb, W1, run_enterLoop_outer _ _ _ _ _, ?_, fun _ _ => trivial, ?_, fun _ => h1, ?_⟩
 · simp only [resolve, hg]; simp [go_sem]
 · simp [invoke, go_sem, eg]
 {
 refine (hit l J W1 hx1 hJx (fun s A h => hM s A h.1) ?_ hJ0).mono ?_
 {
 rintro s x A ⟨hi, hl, hk⟩ hr; have hlt : l < A.heap.size := (Array.getElem?_eq_some_iff.1 hl).1; refine ⟨fn, _, assign, body, run_yield hl (hps x), roundIn_of_wpIn hfn (hassign _ s x A _ hi hr fun a1 A1 hk1 ha1 => ?_)⟩; replace hl := hk1.same _ _ (by omega) hl rfl; replace hk := hk1.same _ _ (Nat.le_refl _) hk rfl; have hlt : l < A1.heap.size := (Array.getElem?_eq_some_iff.1 hl).1; refine ⟨_, run_beginRound hl rfl, ?_⟩; clear hi hr hk1; obtain ⟨A, rfl⟩ : ∃ W, W = A1 := ⟨A1, rfl⟩; have hl2 : (A.putObj l (.loop busy)).heap[l]? = some (.loop busy) := World.putObj_heap_same hlt; have hk2 : (A.putObj l (.loop busy)).heap[w.heap.size]? = some (.deferred (some [])) := (World.putObj_heap_other (by omega)).trans hk; refine wpIn_mono (hbody l s x a1 _ ((hAx s x).putObj _ ha1 (by omega) hl rfl)) fun e a3 A3 hp => ?_
 cases e with
 | normal =>
   obtain ⟨hkf, hi3⟩ := hp; have hl3 := hkf.same _ _ (by omega) hl2 rfl; have hk3 := hkf.same _ _ (Nat.le_refl _) hk2 rfl; exact ⟨_, _, run_endRound none hl3, rfl, hI.putObj _ hi3 (by omega) hl3 rfl, World.putObj_heap_same (Array.getElem?_eq_some_iff.1 hl3).1, (World.putObj_heap_other (by omega)).trans hk3⟩
 | _ => exact hp.elim
 }
 · rintro e W2 ⟨⟨v, rfl⟩, hi, hl, hk⟩
   exact ⟨none, _, run_endLoop hl (by simp [rest]), hdone _ _ (Nat.le_refl _) (hI.putObj _ hi (by omega) hl rfl) ((World.putObj_heap_other (by omega)).trans hk)⟩
 }
/-- An iterator that hands over what lives (R) as long as what it reads is kept (M); a round may say: no more. -/
def IterStops {α σ : Type} (n : Nat) (P : Program) (g : Nat) (lb : Array Value) (encs : α → Array Value) (M : World → Prop) (R : α → World → Prop) (step : σ → α → σ) (s0 s1 : σ) (w : World) : Prop :=
 ∀ (l : Nat) (J : σ → World → Prop) (Jx : World → Prop) (W : World), Ext w W → (∀ s A B, J s A → Ext A B → J s B) → (∀ A B, Jx A → Ext A B → Jx B) → (∀ s A, J s A → M A) →
  (∀ s x A, J s A → R x A → YieldAt Fence.wide (n - 1) P l (encs x) A fun e A' => (e = .returned (.bool true) ∧ J (step s x) A') ∨ (e = .returned (.bool false) ∧ Jx A')) →
  J s0 W → CallsIn Fence.wide n P g (#[.func (.yield l) #[] #[]] ++ lb) W fun e W' => (∃ v, e = .returned v) ∧ (J s1 W' ∨ Jx W')
/-- How a round is left: off its end, or by a return. -/
def goesStops {σ : Type} (B : Nat) (I : σ → World → Prop) (Ix : World → Prop) (s : σ) (W : World) : Exit → Act → World → Prop
 | .normal, _, W' => KeepsFrom B W W' ∧ I s W'
 | .ret, _, W' => KeepsFrom B W W' ∧ Ix W'
 | _, _, _ => False
theorem wpIn_rangeStop {α σ : Type} {P : Program} {n : Nat} {g : Operand} {ps : Array Tmp} {assign body : Code} {Q : Exit → Act → World → Prop} {a : Act} {w : World} (h1 : 1 ≤ n)
 {gf : Nat} {lb : Array Value} (hg : a.eval g = .func (.func gf) #[] lb) (eg : ∀ args w, (callFunc gf args).run P w = .ok (.enter gf args) w)
 {encs : α → Array Value} {M : World → Prop} {R : α → World → Prop} {step : σ → α → σ} {s0 s1 : σ} {w0 : World} (hit : IterStops (n - 1) P gf lb encs M R step s0 s1 w0) (hx0 : Ext w0 w) (hps : ∀ x, (encs x).size = ps.size)
 (I : σ → World → Prop) (hI : OwnFrom w.heap.size I) (Ix : World → Prop) (hIx : OwnFrom w.heap.size (fun (_ : Unit) => Ix)) (hM : ∀ s A, I s A → M A) (h0 : I s0 w) (Ax : σ → α → Act → World → Prop) (hAx : ∀ s x, OwnFrom w.heap.size (Ax s x))
 (hassign : ∀ (l : Nat) (s : σ) (x : α) (W : World) (K : Act → World → Prop), I s W → R x W → (∀ a1 W1, KeepsFrom w.heap.size W W1 → Ax s x a1 W1 → K a1 W1) →
   assign.wpIn (Fence.wide.inRound l) (n - 1 - 1) P (Exit.then K (fun _ _ _ => False)) { tmps := (ps.zip (encs x)).foldl (fun t (p, v) => t.setIfInBounds p v) a.tmps, defers := [] } W)
 (hbody : ∀ (l : Nat) (s : σ) (x : α) (a1 : Act) (W : World), Ax s x a1 W → body.wpIn (Fence.wide.inRound l) (n - 1 - 1) P (goesStops w.heap.size I Ix (step s x) W) a1 W)
 (hdone : ∀ (D : Nat) (W : World), w.heap.size ≤ D → I s1 W → W.heap[D]? = some (.deferred (some [])) → Q .normal { a with defers := { target := .collected D, args := #[] } :: a.defers } W)
 (hstop : ∀ (D : Nat) (W : World), w.heap.size ≤ D → Ix W → W.heap[D]? = some (.deferred (some [])) → Code.ret.wpIn Fence.wide n P Q { a with defers := { target := .collected D, args := #[] } :: a.defers } W) :
 (Code.rangeFunc g ps assign body).wpIn Fence.wide n P Q a w := by
 refine wpIn_rangeFunc fun fn hfn => ?_; obtain ⟨rec, hrec⟩ : ∃ rec : LoopState → Option Code → Loop, rec = fun st pe => { state := st, pending := pe, fn, tmps := a.tmps, params := ps, assign, body, defers := w.heap.size } := ⟨_, rfl⟩
 let l := w.heap.size + 1
 let W1 := (w.alloc (.deferred (some []))).alloc (.loop (rec .ready none))
 let J : σ → World → Prop := fun s W => I s W ∧ W.heap[l]? = some (.loop (rec .ready none)) ∧ W.heap[w.heap.size]? = some (.deferred (some []))
 let Jx : World → Prop := fun W => Ix W ∧ W.heap[l]? = some (.loop (rec .done (some .ret))) ∧ W.heap[w.heap.size]? = some (.deferred (some []))
 have hJ0 : J s0 W1 := by
  refine ⟨hI.alloc _ (hI.alloc _ h0), ?_, ?_⟩
  · have := World.alloc_heap_new (w.alloc (.deferred (some []))) (.loop (rec .ready none))
    rwa [World.size_alloc] at this
  · exact (Below.heap_alloc _ _ _ (by simp)).trans (World.alloc_heap_new w _)
 have hJx : ∀ s A B, J s A → Ext A B → J s B := fun s A B ⟨h2, h3, h4⟩ hx =>
  ⟨hI s A B none h2 (⟨hx.os, hx.tape, hx.output, hx.size, fun k hk _ => hx.block k hk⟩) (fun r e => by cases e), hx.blk h3, hx.blk h4⟩
 have hJy : ∀ A B, Jx A → Ext A B → Jx B := fun A B ⟨h2, h3, h4⟩ hx =>
  ⟨hIx () A B none h2 (⟨hx.os, hx.tape, hx.output, hx.size, fun k hk _ => hx.block k hk⟩) (fun r e => by cases e), hx.blk h3, hx.blk h4⟩
 have hx1 : Ext w0 W1 := (hx0.alloc _).alloc _; refine ⟨l, [{ target := .collected w.heap.size, args := #[] }], W1, { target := .fn (.func gf) lb, args := #[.func (.yield l) #[] #[]] }, W1, gf, #[.func (.yield l) #[] #[]] ++ lb, W1, ?_, ?_, fun _ _ => trivial, ?_, fun _ => h1, ?_⟩
 · show _ = Result.ok _ ((w.alloc (.deferred (some []))).alloc (.loop (rec .ready none)))
   rw [hrec]; exact run_enterLoop_outer _ _ _ _ _
 · simp only [resolve, hg]; simp [go_sem]
 · simp [invoke, go_sem, eg]
 {
 refine (hit l J Jx W1 hx1 hJx hJy (fun s A h => hM s A h.1) ?_ hJ0).mono ?_
 {
 rintro s x A ⟨hi, hl, hk⟩ hr; have hlt : l < A.heap.size := (Array.getElem?_eq_some_iff.1 hl).1; have hy := run_yield (P := P) (args := encs x) hl (by rw [hrec]; exact hps x); rw [hrec] at hy; refine ⟨fn, _, assign, body, hy, roundIn_of_wpIn hfn (hassign _ s x A _ hi hr fun a1 A1 hk1 ha1 => ?_)⟩; clear hy; replace hl := hk1.same _ _ (by omega) hl rfl; replace hk := hk1.same _ _ (Nat.le_refl _) hk rfl; have hlt : l < A1.heap.size := (Array.getElem?_eq_some_iff.1 hl).1; refine ⟨_, run_beginRound hl (by rw [hrec]), ?_⟩; clear hi hr hk1; obtain ⟨A, rfl⟩ : ∃ W, W = A1 := ⟨A1, rfl⟩; have hl2 : (A.putObj l (.loop { rec .ready none with state := .busy })).heap[l]? = some (.loop { rec .ready none with state := .busy }) := World.putObj_heap_same hlt; have hk2 : (A.putObj l (.loop { rec .ready none with state := .busy })).heap[w.heap.size]? = some (.deferred (some [])) := (World.putObj_heap_other (by omega)).trans hk; refine wpIn_mono (hbody l s x a1 _ ((hAx s x).putObj _ ha1 (by omega) hl rfl)) fun e a3 A3 hp => ?_
 have fin : ∀ (jump : Option Code) (W3 : World), KeepsFrom w.heap.size (A.putObj l (.loop { rec .ready none with state := .busy })) W3 →
  (Instr.endRound l jump).run P W3 = .ok (.bool jump.isNone) (W3.putObj l (.loop (rec (if jump.isNone then .ready else .done) jump))) ∧
  W3.heap[l]? = some (.loop { rec .ready none with state := .busy }) ∧
  (W3.putObj l (.loop (rec (if jump.isNone then .ready else .done) jump))).heap[l]? = some (.loop (rec (if jump.isNone then .ready else .done) jump)) ∧
  (W3.putObj l (.loop (rec (if jump.isNone then .ready else .done) jump))).heap[w.heap.size]? = some (.deferred (some [])) := fun jump W3 hk3 => by
  have hl3 := hk3.same _ _ (by omega) hl2 rfl; have := run_endRound (P := P) jump hl3; rw [hrec] at this ⊢; exact ⟨this, by rw [hrec] at hl3; exact hl3, World.putObj_heap_same (Array.getElem?_eq_some_iff.1 hl3).1, (World.putObj_heap_other (by omega)).trans (hk3.same _ _ (Nat.le_refl _) hk2 rfl)⟩
 cases e with
 | normal =>
   obtain ⟨hk3, hi3⟩ := hp; obtain ⟨hr, hl3, hl4, hk4⟩ := fin none A3 hk3; exact ⟨_, _, hr, .inl ⟨rfl, hI.putObj _ hi3 (by omega) hl3 rfl, hl4, hk4⟩⟩
 | ret =>
   obtain ⟨hk3, hi3⟩ := hp; obtain ⟨hr, hl3, hl4, hk4⟩ := fin (some .ret) A3 hk3; exact ⟨_, _, hr, .inr ⟨rfl, hIx.putObj (s := ()) _ hi3 (by omega) hl3 rfl, hl4, hk4⟩⟩
 | exit id => exact hp.elim
 | goto t => exact hp.elim
 | panic ch => exact hp.elim
 | outgrown => exact hp.elim
 }
 {
 rintro e W2 ⟨⟨v, rfl⟩, (⟨hi, hl, hk⟩ | ⟨hi, hl, hk⟩)⟩
 · exact ⟨none, _, by have := run_endLoop (P := P) hl (by rw [hrec]; simp); rw [hrec] at this; exact this, hdone _ _ (Nat.le_refl _) (hI.putObj _ hi (by omega) hl rfl) ((World.putObj_heap_other (by omega)).trans hk)⟩
 · exact ⟨some .ret, _, by have := run_endLoop (P := P) hl (by rw [hrec]; simp); rw [hrec] at this; exact this, hstop _ _ (Nat.le_refl _) (hIx.putObj (s := ()) _ hi (by omega) hl rfl) ((World.putObj_heap_other (by omega)).trans hk)⟩
 }
 }
end Go.Proofs.YtojobdffnnibaaaGreat