/- A range over a function; a region that draws its order inside a round. -/
import Derived.Test.YtekplfbfkfiabaaPlainSh
import Derived.RangeFuncNested
import Derived.RangeFuncBound
import Derived.RangeFuncCalls
import Derived.RangeFuncLeaves
import Derived.Shelf.Abstract
import Derived.Shelf.RegionOpen
import Derived.OwnWalkIn
import Derived.TacticsInMore
import Derived.LoopNIn
import Derived.LoopIn
namespace Go.Proofs.Ytekplfbfkfiabaa
open Go.RowKit Go.Shelf
set_option linter.unusedVariables false

/-- An iterator that hands over what lives (R) as long as what it reads is kept (M): the caller's state goes from s0 to s1. -/
def IterGives {α σ : Type} (n : Nat) (P : Program) (g : Nat) (lb : Array Value) (encs : α → Array Value) (M : World → Prop) (R : α → World → Prop) (step : σ → α → σ) (s0 s1 : σ) (w : World) : Prop :=
  ∀ (l : Nat) (J : σ → World → Prop) (W : World), Ext w W → (∀ s A B, J s A → Ext A B → J s B) → (∀ s A, J s A → M A) →
    (∀ s x A, J s A → R x A → YieldAt Fence.wide (n - 1) P l (encs x) A fun e A' => e = .returned (.bool true) ∧ J (step s x) A') →
    J s0 W → CallsIn Fence.wide n P g (#[.func (.yield l) #[] #[]] ++ lb) W fun e W' => (∃ v, e = .returned v) ∧ J s1 W'

/-- How a round is left: off its end. -/
def goesOn {σ : Type} (B : Nat) (I : σ → World → Prop) (s : σ) (W : World) : Exit → Act → World → Prop
  | .normal, _, W' => KeepsFrom B W W' ∧ I s W'
  | _, _, _ => False

theorem wpIn_rangeLive {α σ : Type} {P : Program} {n : Nat} {g : Operand} {ps : Array Tmp} {assign body : Code} {Q : Exit → Act → World → Prop} {a : Act} {w : World} (h1 : 1 ≤ n)
    {gf : Nat} {lb : Array Value} (hg : a.eval g = .func (.func gf) #[] lb) (eg : ∀ args w, (callFunc gf args).run P w = .ok (.enter gf args) w)
    {encs : α → Array Value} {M : World → Prop} {R : α → World → Prop} {step : σ → α → σ} {s0 s1 : σ} {w0 : World} (hit : IterGives (n - 1) P gf lb encs M R step s0 s1 w0) (hx0 : Ext w0 w) (hps : ∀ x, (encs x).size = ps.size)
    (I : σ → World → Prop) (hI : OwnFrom w.heap.size I) (hM : ∀ s A, I s A → M A) (h0 : I s0 w) (Ax : σ → α → Act → World → Prop) (hAx : ∀ s x, OwnFrom w.heap.size (Ax s x))
    (hassign : ∀ (l : Nat) (s : σ) (x : α) (W : World) (K : Act → World → Prop), I s W → R x W → (∀ a1 W1, KeepsFrom w.heap.size W W1 → Ax s x a1 W1 → K a1 W1) →
      assign.wpIn (Fence.wide.inRound l) (n - 1 - 1) P (Exit.then K (fun _ _ _ => False)) { tmps := (ps.zip (encs x)).foldl (fun t (p, v) => t.setIfInBounds p v) a.tmps, defers := [] } W)
    (hbody : ∀ (l : Nat) (s : σ) (x : α) (a1 : Act) (W : World), Ax s x a1 W → body.wpIn (Fence.wide.inRound l) (n - 1 - 1) P (goesOn w.heap.size I (step s x) W) a1 W)
    (hdone : ∀ (D : Nat) (W : World), w.heap.size ≤ D → I s1 W → W.heap[D]? = some (.deferred (some [])) → Q .normal { a with defers := { target := .collected D, args := #[] } :: a.defers } W) :
    (Code.rangeFunc g ps assign body).wpIn Fence.wide n P Q a w := by
  refine wpIn_rangeFunc fun fn hfn => ?_
  -- the record at rest and at work
  let rest : Loop := { state := .ready, pending := none, fn, tmps := a.tmps, params := ps, assign, body, defers := w.heap.size }
  let busy : Loop := { rest with state := .busy }
  let l := w.heap.size + 1
  let W1 := (w.alloc (.deferred (some []))).alloc (.loop rest)
  let J : σ → World → Prop := fun s W => I s W ∧ W.heap[l]? = some (.loop rest) ∧ W.heap[w.heap.size]? = some (.deferred (some []))
  have hJ0 : J s0 W1 := by
    refine ⟨hI.alloc _ (hI.alloc _ h0), ?_, ?_⟩
    · have := World.alloc_heap_new (w.alloc (.deferred (some []))) (.loop rest)
      rwa [World.size_alloc] at this
    · exact (Below.heap_alloc _ _ _ (by simp)).trans (World.alloc_heap_new w _)
  have hJx : ∀ s A B, J s A → Ext A B → J s B := fun s A B ⟨h2, h3, h4⟩ hx =>
    ⟨hI s A B none h2 (⟨hx.os, hx.tape, hx.output, hx.size, fun k hk _ => hx.block k hk⟩) (fun r e => by cases e), hx.blk h3, hx.blk h4⟩
  have hx1 : Ext w0 W1 := (hx0.alloc _).alloc _
  refine ⟨l, [{ target := .collected w.heap.size, args := #[] }], W1, { target := .fn (.func gf) lb, args := #[.func (.yield l) #[] #[]] }, W1, gf, #[.func (.yield l) #[] #[]] ++ lb, W1, run_enterLoop_outer _ _ _ _ _, ?_, fun _ _ => trivial, ?_, fun _ => h1, ?_⟩
  · simp only [resolve, hg]; simp [go_sem]
  · simp [invoke, go_sem, eg]
  · refine (hit l J W1 hx1 hJx (fun s A h => hM s A h.1) ?_ hJ0).mono ?_
    · rintro s x A ⟨hi, hl, hk⟩ hr
      have hlt : l < A.heap.size := (Array.getElem?_eq_some_iff.1 hl).1
      refine ⟨fn, _, assign, body, run_yield hl (hps x), roundIn_of_wpIn hfn (hassign _ s x A _ hi hr fun a1 A1 hk1 ha1 => ?_)⟩
      replace hl := hk1.same _ _ (by omega) hl rfl
      replace hk := hk1.same _ _ (Nat.le_refl _) hk rfl
      have hlt : l < A1.heap.size := (Array.getElem?_eq_some_iff.1 hl).1
      refine ⟨_, run_beginRound hl rfl, ?_⟩
      clear hi hr hk1
      obtain ⟨A, rfl⟩ : ∃ W, W = A1 := ⟨A1, rfl⟩
      have hl2 : (A.putObj l (.loop busy)).heap[l]? = some (.loop busy) := World.putObj_heap_same hlt
      have hk2 : (A.putObj l (.loop busy)).heap[w.heap.size]? = some (.deferred (some [])) := (World.putObj_heap_other (by omega)).trans hk
      refine wpIn_mono (hbody l s x a1 _ ((hAx s x).putObj _ ha1 (by omega) hl rfl)) fun e a3 A3 hp => ?_
      cases e with
      | normal =>
        obtain ⟨hkf, hi3⟩ := hp
        have hl3 := hkf.same _ _ (by omega) hl2 rfl
        have hk3 := hkf.same _ _ (Nat.le_refl _) hk2 rfl
        exact ⟨_, _, run_endRound none hl3, rfl, hI.putObj _ hi3 (by omega) hl3 rfl, World.putObj_heap_same (Array.getElem?_eq_some_iff.1 hl3).1, (World.putObj_heap_other (by omega)).trans hk3⟩
      | _ => exact hp.elim
    · rintro e W2 ⟨⟨v, rfl⟩, hi, hl, hk⟩
      exact ⟨none, _, run_endLoop hl (by simp [rest]), hdone _ _ (Nat.le_refl _) (hI.putObj _ hi (by omega) hl rfl) ((World.putObj_heap_other (by omega)).trans hk)⟩

section
variable {P : Program} {ops : Array Oper} {Q : Exit → Act → World → Prop} {n : Nat} {l : Nat} {md : Region.Mode}
theorem rowsIn_wideR {row : String} {args : Array Value} {w : World} {R : Value → World → Prop} (h : Rows P row args w R) : RowsIn (Fence.wide.inRound l) n P row args w R :=
  fun c cs _ => let ⟨v, w', r, s⟩ := h c cs; ⟨v, w', r, stepsIn_wide.2 s⟩
theorem upon_inRound {o : Oper} {a : Act} {K : Act → World → Prop} (hL : ¬ LetsOut Q) {r : Result Next} (h : o.upon P a K Q r) : o.uponIn (Fence.wide.inRound l) n P a K Q r := by
  have hd : (Fence.wide.inRound l).depth.isSome = true → 1 ≤ n := fun h => by simp [Fence.wide, Fence.inRound] at h
  cases r with
  | ok x w' =>
    cases x <;> simp only [Oper.upon, Oper.uponIn] at h ⊢ <;>
      first
        | exact h
        | exact ⟨hd, CallsIn.inRound l (callsIn_wide.2 h)⟩
        | exact ⟨hd, rowsIn_wideR h⟩
  | halt x w' => cases x <;> simp only [Oper.upon, Oper.uponIn] at h ⊢ <;> exact h
/-- No operation lays a deferred call. -/
def noDefer (ops : Array Oper) : Bool := ops.all fun o => match o.op with | .defer _ => false | _ => true
theorem noDefer_spec {i : Nat} {o : Oper} (h : noDefer ops = true) (hi : ops[i]? = some o) : ∀ c, o.op ≠ .defer c := fun c e => by
  have h1 := Array.all_eq_true'.1 h o (Array.mem_of_getElem? hi)
  rw [e] at h1
  cases h1
theorem wpOpIn_of {i : Nat} {a : Act} {w : World} {K : Act → World → Prop} (hD : noDefer ops = true) (hL : ¬ LetsOut Q) (h : wpOp P ops Q i K a w) : wpOpIn (Fence.wide.inRound l) n P ops Q i K a w := by
  unfold wpOp at h
  unfold wpOpIn
  split
  · rename_i ho; rw [ho] at h; exact h
  · rename_i o ho
    rw [ho] at h
    dsimp only at h
    split
    · rename_i hw
      rw [if_pos hw] at h
      rcases h with h | h
      · refine ⟨fun _ _ => trivial, ?_⟩
        rw [Oper.semAt_eq _ _ _ (noDefer_spec hD ho)]
        exact upon_inRound hL h
      · exact absurd h.2 hL
    · rename_i hw
      rw [if_neg hw] at h
      exact ⟨fun _ _ => trivial, h⟩
theorem wpAnyIn_of (hD : noDefer ops = true) (hL : ¬ LetsOut Q) : ∀ (fuel : Nat) (listed : Array Bool) (a : Act) (w : World), wpAny P md ops Q fuel listed a w → wpAnyIn (Fence.wide.inRound l) n P md ops Q fuel listed a w
  | 0, _, _, _, h => h
  | fuel + 1, listed, a, w, h => ⟨h.1, fun i hi => wpOpIn_mono (fun a w => wpAnyIn_of hD hL fuel _ a w) (wpOpIn_of hD hL (h.2 i hi))⟩
/-- A region that draws its order, in a round. -/
theorem wpIn_region_K {id : Nat} {a : Act} {w : World} (S : World → Prop) (m : Nat) (hm : P.follows .mixedOrders = true) (hD : noDefer ops = true) (hL : ¬ LetsOut Q) (hS : S w.drew)
    (h : S w.drew → wpAnyK P .any ops Q S m ops.size (Array.replicate ops.size false) a w.drew) : (Code.region id ops true).wpIn (Fence.wide.inRound l) n P Q a w :=
  wpIn_region_any hm (wpAnyIn_of hD hL _ _ _ _ (wpAny_of_K _ _ _ _ (h hS)))
end
end Go.Proofs.Ytekplfbfkfiabaa
