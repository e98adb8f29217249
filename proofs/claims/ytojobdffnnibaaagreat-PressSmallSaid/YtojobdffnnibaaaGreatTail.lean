/- A region that draws its order, whose last operations wait for all loads: a load is taken first if its cell is as it was until those. -/
import Derived.Deep.RegionHeld3
import Derived.StillTail
namespace Go
set_option linter.unusedVariables false
section
variable {P : Program} {ops : Array Oper} {Q : Exit → Act → World → Prop} {md : Region.Mode} {S : World → Prop} {n : Nat}
/-- Whatever order is picked from here on, and S holds behind every operation ahead of number n. -/
def wpAnyK (P : Program) (md : Region.Mode) (ops : Array Oper) (Q : Exit → Act → World → Prop) (S : World → Prop) (n : Nat) : Nat → Array Bool → Act → World → Prop
 | 0, listed, a, w => Region.ready md ops listed = [] ∧ Q .normal a w
 | fuel + 1, listed, a, w =>
   (Region.ready md ops listed = [] → Q .normal a w) ∧
   ∀ i ∈ Region.ready md ops listed, wpOp P ops Q i (fun a' w' => (i < n → S w') ∧ wpAnyK P md ops Q S n fuel (listed.setIfInBounds i true) a' w') a w
theorem wpAny_of_K : ∀ (fuel : Nat) (listed : Array Bool) (a : Act) (w : World), wpAnyK P md ops Q S n fuel listed a w → wpAny P md ops Q fuel listed a w
 | 0, _, _, _, h => h
 | fuel + 1, _, _, _, h => ⟨h.1, fun i hi => wpOp_mono (fun a' w' h' => wpAny_of_K fuel _ a' w' h'.2) (h.2 i hi)⟩
/-- Number j waits for number i, by itself or through up to two others. -/
def waits3 (md : Region.Mode) (ops : Array Oper) (j i : Nat) : Bool :=
 Region.waitsFor md ops j i || (List.range ops.size).any fun m => Region.waitsFor md ops j m && (Region.waitsFor md ops m i || (List.range ops.size).any fun k => Region.waitsFor md ops m k && Region.waitsFor md ops k i)
def tailWaits (md : Region.Mode) (ops : Array Oper) (n i : Nat) : Bool := (List.range ops.size).all fun j => decide (j < n) || waits3 md ops j i
def Closed (md : Region.Mode) (ops : Array Oper) (listed : Array Bool) : Prop := ∀ j oj, ops[j]? = some oj → listed.getD j false = true → ∀ e ∈ oj.after, Region.binds md e = true → listed.getD e.on false = true
def closedB (md : Region.Mode) (ops : Array Oper) (listed : Array Bool) : Bool := (List.range ops.size).all fun j => !listed.getD j false || ((ops[j]?).map (fun o => o.after.all fun e => !Region.binds md e || listed.getD e.on false)).getD true
theorem closedB_spec {listed : Array Bool} (h : closedB md ops listed = true) : Closed md ops listed := fun j oj hj hl e he hb => by
 have hjs : j < ops.size := (Array.getElem?_eq_some_iff.1 hj).1; have h1 := List.all_eq_true.1 h j (List.mem_range.2 hjs); rw [hj, hl] at h1; simp only [Bool.not_true, Bool.false_or, Option.map_some, Option.getD_some] at h1; have h2 := Array.all_eq_true'.1 h1 e he; rw [hb] at h2
 simpa using h2
theorem Closed.set {i : Nat} {listed : Array Bool} (c : Closed md ops listed) (hi : i ∈ Region.ready md ops listed) : Closed md ops (listed.setIfInBounds i true) := by
 obtain ⟨_, oi, hoi, hall⟩ := mem_ready.1 hi; intro j oj hj hl e he hb
 by_cases hij : i = j
 { subst hij; have : oj = oi := Option.some.inj (hj.symm.trans hoi); subst this; exact getD_set_true (hall e he hb) }
 · rw [getD_set_ne false hij] at hl
   exact getD_set_true (c j oj hj hl e he hb)
theorem waits_listed {listed : Array Bool} (c : Closed md ops listed) {m i : Nat} (hm : listed.getD m false = true) (h : Region.waitsFor md ops m i = true) : listed.getD i false = true := by
 obtain ⟨om, hom, e, he, hb, rfl⟩ := Region.waitsFor_spec h; exact c m om hom hm e he hb
theorem waits_ready {listed : Array Bool} {j i : Nat} (hj : j ∈ Region.ready md ops listed) (h : Region.waitsFor md ops j i = true) : listed.getD i false = true := by
 obtain ⟨oj, hoj, e, he, hb, rfl⟩ := Region.waitsFor_spec h; obtain ⟨_, oj', hoj', hall⟩ := mem_ready.1 hj; have : oj' = oj := Option.some.inj (hoj'.symm.trans hoj); subst this; exact hall e he hb
theorem waits3_listed {listed : Array Bool} (c : Closed md ops listed) {j i : Nat} (hj : j ∈ Region.ready md ops listed) (h : waits3 md ops j i = true) : listed.getD i false = true := by
 unfold waits3 at h
 rcases Bool.or_eq_true _ _ |>.mp h with h | h
 · exact waits_ready hj h
 {
 obtain ⟨m, _, hm⟩ := List.any_eq_true.1 h; rw [Bool.and_eq_true] at hm; have h1 := waits_ready hj hm.1
 rcases Bool.or_eq_true _ _ |>.mp hm.2 with h2 | h2
 · exact waits_listed c h1 h2
 { obtain ⟨k, _, hk⟩ := List.any_eq_true.1 h2; rw [Bool.and_eq_true] at hk; exact waits_listed c (waits_listed c h1 hk.1) hk.2 }
 }
theorem wpAnyK_first {i : Nat} {oi : Oper} {v : Value} (hi : ops[i]? = some oi) (hin : i < n) (hsel : ∀ (j : Nat) (o : Oper) cs b, ops[j]? = some o → o.op ≠ .select cs b) (hD : tailWaits md ops n i = true)
 (hQ : ∀ c a w, Q (.panic c) (a.put oi.dst v) w → Q (.panic c) a w) :
 ∀ (fuel : Nat) (listed : Array Bool) (a : Act) (w : World),
  (∀ j oj, ops[j]? = some oj → j ≠ i → listed.getD j true = false → (∀ e ∈ oj.after, Region.binds md e = true → e.on ≠ i) → oi.apart ops oj = true) →
  i ∈ Region.ready md ops listed → Closed md ops listed → YieldsIf P ops S oi v a → S w →
  wpAnyK P md ops Q S n fuel (listed.setIfInBounds i true) (a.put oi.dst v) w → wpAnyK P md ops Q S n (fuel + 1) listed a w := by
 intro fuel
 induction fuel with
 | zero =>
   intro listed a w _ hr c hy hS H; refine ⟨fun h => (by rw [h] at hr; cases hr), fun j hj => ?_⟩
   by_cases hji : j = i
   · subst hji; exact hy.wpOp hi hS ⟨fun _ => hS, H⟩
   {
   have := ready_mono hj hji; rw [H.1] at this
   cases this
   }
 | succ fuel ih =>
   intro listed a w hfree hr c hy hS H; refine ⟨fun h => (by rw [h] at hr; cases hr), fun j hj => ?_⟩
   by_cases hji : j = i
   · subst hji; exact hy.wpOp hi hS ⟨fun _ => hS, H⟩
   {
   have h1 := H.2 j (ready_mono hj hji); obtain ⟨hjun, oj, hoj, hall⟩ := mem_ready.1 hj
   have hnot : ∀ e ∈ oj.after, Region.binds md e = true → e.on ≠ i := fun e he hb heq => by
    have h1 := hall e he hb; have h0 := (mem_ready.1 hr).1; rw [heq, getD_both h0] at h1
    cases h1
   have hjn : j < n := by
    have hjs : j < ops.size := (Array.getElem?_eq_some_iff.1 hoj).1; have h5 := List.all_eq_true.1 hD j (List.mem_range.2 hjs); simp only [Bool.or_eq_true, decide_eq_true_eq] at h5
    rcases h5 with h5 | h5
    · exact h5
    {
    have h6 := waits3_listed c hj h5; have h0 := (mem_ready.1 hr).1; rw [getD_both h0] at h6
    cases h6
    }
   have h2 := wpOp_putIf hoj (hfree j oj hoj hji hjun hnot) (fun cs b => hsel i oi cs b hi) (fun cs b => hsel j oj cs b hoj) hQ hy h1
   have hfree' : ∀ k ok, ops[k]? = some ok → k ≠ i → (listed.setIfInBounds j true).getD k true = false →
    (∀ e ∈ ok.after, Region.binds md e = true → e.on ≠ i) → oi.apart ops ok = true := fun k ok hk hki hun hno => by
    refine hfree k ok hk hki ?_ hno
    by_cases hjk : j = k
    · subst hjk; exact hjun
    · rw [getD_set_ne true hjk] at hun; exact hun
   refine wpOp_mono (fun a' w' h3 => ⟨h3.2.1, ih (listed.setIfInBounds j true) a' w' hfree' (ready_mono hr (Ne.symm hji)) (c.set hj) h3.1 (h3.2.1 hjn) ?_⟩) h2; rw [Array.setIfInBounds_comm _ _ hji]; exact h3.2.2
   }
theorem wpAnyK_take {i : Nat} {oi : Oper} {v : Value} {fuel : Nat} {listed : Array Bool} {a : Act} {w : World} (hi : ops[i]? = some oi)
 (hs : Region.noSelect ops = true) (hf : Region.free md ops listed i = true) (hr : (Region.ready md ops listed).contains i = true) (hn : (decide (i < n) && tailWaits md ops n i && closedB md ops listed) = true)
 (hQ : ∀ c a w, Q (.panic c) (a.put oi.dst v) w → Q (.panic c) a w) (hy : YieldsIf P ops S oi v a) (hS : S w)
 (h : wpAnyK P md ops Q S n fuel (listed.setIfInBounds i true) (a.put oi.dst v) w) : wpAnyK P md ops Q S n (fuel + 1) listed a w := by
 simp only [Bool.and_eq_true, decide_eq_true_eq] at hn; exact wpAnyK_first hi hn.1.1 (Region.noSelect_spec hs) hn.1.2 hQ fuel listed a w (Region.free_spec hi hf) (by simpa using hr) (closedB_spec hn.2) hy hS h
def AllReadyK (P : Program) (md : Region.Mode) (ops : Array Oper) (Q : Exit → Act → World → Prop) (S : World → Prop) (n : Nat) (fuel : Nat) (listed : Array Bool) (a : Act) (w : World) (rs : List Nat) : Prop :=
 ∀ i ∈ rs, wpOp P ops Q i (fun a' w' => (i < n → S w') ∧ wpAnyK P md ops Q S n fuel (listed.setIfInBounds i true) a' w') a w
theorem AllReadyK.nil {fuel : Nat} {listed : Array Bool} {a : Act} {w : World} : AllReadyK P md ops Q S n fuel listed a w [] := fun _ h => by cases h
theorem AllReadyK.cons {fuel : Nat} {listed : Array Bool} {a : Act} {w : World} {i : Nat} {o : Oper} {rs : List Nat} (ho : ops[i]? = some o)
 (h : ∀ K' : Act → World → Prop, Shut (∀ a w, (i < n → S w) → ((i < n → S w) → wpAnyK P md ops Q S n fuel (listed.setIfInBounds i true) a w) → K' a w) → if Region.wanted o (yielded ops a.tmps) = true then Oper.wp P o a w K' Q else K' (a.put o.dst undef) w)
 (hs : AllReadyK P md ops Q S n fuel listed a w rs) : AllReadyK P md ops Q S n fuel listed a w (i :: rs) := fun j hj => by
 rcases List.mem_cons.1 hj with rfl | hj
 {
 have h1 := h (fun a' w' => (j < n → S w') ∧ wpAnyK P md ops Q S n fuel (listed.setIfInBounds j true) a' w') (fun a w h2 h3 => ⟨h2, h3 h2⟩); unfold wpOp; simp only [ho]
 split
 { rename_i hw; rw [if_pos hw] at h1; exact .inl h1 }
 { rename_i hw; rw [if_neg hw] at h1; exact h1 }
 }
 · exact hs j hj
theorem wpAnyK_ready {rs : List Nat} {fuel : Nat} {listed : Array Bool} {a : Act} {w : World} (hr : Region.ready md ops listed = rs) (hne : rs ≠ [])
 (h : AllReadyK P md ops Q S n fuel listed a w rs) : wpAnyK P md ops Q S n (fuel + 1) listed a w :=
 ⟨fun h0 => absurd (hr ▸ h0) hne, hr ▸ h⟩
theorem wpAnyK_done {listed : Array Bool} {a : Act} {w : World} (hr : Region.ready md ops listed = []) (h : Q .normal a w) :
 ∀ fuel, wpAnyK P md ops Q S n fuel listed a w
 | 0 => ⟨hr, h⟩
 | _ + 1 => ⟨fun _ => h, by rw [hr]; simp⟩
theorem drop_get {l tl : List Oper} {o : Oper} {i : Nat} (h : l.drop i = o :: tl) : l.toArray[i]? = some o := by
 have h1 : (l.drop i)[0]? = some o := (by rw [h]; rfl); rw [List.getElem?_drop] at h1
 simpa using h1
theorem wpAnyK_takeL {l tl : List Oper} {i : Nat} {oi : Oper} {v : Value} {fuel : Nat} {listed : Array Bool} {a : Act} {w : World} (hi : l.drop i = oi :: tl)
 (hs : Region.noSelect l.toArray = true) (hf : Region.free md l.toArray listed i = true) (hr : (Region.ready md l.toArray listed).contains i = true) (hn : (decide (i < n) && tailWaits md l.toArray n i && closedB md l.toArray listed) = true)
 (hQ : ∀ c a w, Q (.panic c) (a.put oi.dst v) w → Q (.panic c) a w) (hy : YieldsIf P l.toArray S oi v a) (hS : S w)
 (h : wpAnyK P md l.toArray Q S n fuel (listed.setIfInBounds i true) (a.put oi.dst v) w) : wpAnyK P md l.toArray Q S n (fuel + 1) listed a w :=
 wpAnyK_take (drop_get hi) hs hf hr hn hQ hy hS h
theorem AllReadyK.consL {l tl : List Oper} {fuel : Nat} {listed : Array Bool} {a : Act} {w : World} {i : Nat} {o : Oper} {rs : List Nat} (ho : l.drop i = o :: tl)
 (h : ∀ K' : Act → World → Prop, Shut (∀ a w, (i < n → S w) → ((i < n → S w) → wpAnyK P md l.toArray Q S n fuel (listed.setIfInBounds i true) a w) → K' a w) → if Region.wanted o (yielded l.toArray a.tmps) = true then Oper.wp P o a w K' Q else K' (a.put o.dst undef) w)
 (hs : AllReadyK P md l.toArray Q S n fuel listed a w rs) : AllReadyK P md l.toArray Q S n fuel listed a w (i :: rs) :=
 AllReadyK.cons (drop_get ho) h hs
theorem kU {l tl : List Oper} {i : Nat} {oi : Oper} {v : Value} {fuel : Nat} {listed : Array Bool} {a : Act} {w : World} (hS : S w)
 (h : wpAnyK P md l.toArray Q S n fuel (listed.setIfInBounds i true) (a.put oi.dst v) w)
 (hi : l.drop i = oi :: tl := by rfl) (hw : Region.wanted oi (yielded l.toArray a.tmps) = true := by rfl)
 (hv : ∀ w, S w → (execOp a.eval oi).run P w = .ok (.value v) w := by intro w hSw; (try dsimp only at hSw); go_simp; (try with_reducible rfl))
 (hQ : ∀ c a w, Q (.panic c) (a.put oi.dst v) w → Q (.panic c) a w := by exact fun _ _ _ h => h)
 (hs : Region.noSelect l.toArray = true := by kernel_rfl) (hf : Region.free md l.toArray listed i = true := by kernel_rfl) (hr : (Region.ready md l.toArray listed).contains i = true := by kernel_rfl) (hn : (decide (i < n) && tailWaits md l.toArray n i && closedB md l.toArray listed) = true := by kernel_rfl) : wpAnyK P md l.toArray Q S n (fuel + 1) listed a w :=
 wpAnyK_takeL hi hs hf hr hn hQ (.inl ⟨hw, hv⟩) hS h
theorem kV {l tl : List Oper} {i : Nat} {oi : Oper} {fuel : Nat} {listed : Array Bool} {a : Act} {w : World} (hS : S w)
 (h : wpAnyK P md l.toArray Q S n fuel (listed.setIfInBounds i true) (a.put oi.dst undef) w)
 (hi : l.drop i = oi :: tl := by rfl) (hw : Region.wanted oi (yielded l.toArray a.tmps) = false := by rfl)
 (hQ : ∀ c a w, Q (.panic c) (a.put oi.dst undef) w → Q (.panic c) a w := by exact fun _ _ _ h => h)
 (hs : Region.noSelect l.toArray = true := by kernel_rfl) (hf : Region.free md l.toArray listed i = true := by kernel_rfl) (hr : (Region.ready md l.toArray listed).contains i = true := by kernel_rfl) (hn : (decide (i < n) && tailWaits md l.toArray n i && closedB md l.toArray listed) = true := by kernel_rfl) : wpAnyK P md l.toArray Q S n (fuel + 1) listed a w :=
 wpAnyK_takeL hi hs hf hr hn hQ (.inr ⟨hw, rfl⟩) hS h
theorem kG {R K : Act → World → Prop} {i : Nat} {a : Act} {w : World} (hK : Shut (∀ a w, (i < n → S w) → ((i < n → S w) → R a w) → K a w)) (h1 : S w) (h2 : S w → R a w) : K a w :=
 hK.out a w (fun _ => h1) (fun _ => h2 h1)
theorem kH {R K : Act → World → Prop} {i : Nat} {a : Act} {w : World} (hK : Shut (∀ a w, (i < n → S w) → ((i < n → S w) → R a w) → K a w)) (hi : decide (i < n) = false) (h2 : R a w) : K a w :=
 hK.out a w (fun h => absurd h (of_decide_eq_false hi)) (fun _ => h2)
theorem kS : (∀ (a : Act) (v : Value), a.put none v = a) ∧ (∀ (a : Act) (d : Tmp) (v : Value), a.put (some d) v = { a with tmps := a.tmps.setIfInBounds d v }) ∧ (∀ (l : List Value) (i : Nat) (a : Value), l.toArray.setIfInBounds i a = (l.set i a).toArray) ∧
 (∀ (l : List Bool) (i : Nat) (a : Bool), l.toArray.setIfInBounds i a = (l.set i a).toArray) ∧ (∀ (x a : Value) (l : List Value), (x :: l).set 0 a = a :: l) ∧ (∀ (x a : Bool) (l : List Bool), (x :: l).set 0 a = a :: l) ∧
 (∀ (x a : Value) (l : List Value) (i : Nat), (x :: l).set (i + 1) a = x :: l.set i a) ∧ ∀ (x a : Bool) (l : List Bool) (i : Nat), (x :: l).set (i + 1) a = x :: l.set i a :=
 ⟨fun _ _ => rfl, fun _ _ _ => rfl, fun _ _ _ => List.setIfInBounds_toArray .., fun _ _ _ => List.setIfInBounds_toArray .., fun _ _ _ => rfl, fun _ _ _ => rfl, fun _ _ _ _ => rfl, fun _ _ _ _ => rfl⟩
theorem kX (i : Nat) {l tl : List Oper} {oi : Oper} {v : Value} {fuel : Nat} {listed : Array Bool} {a : Act} {w : World} (hS : S w)
 (h : wpAnyK P md l.toArray Q S n fuel (listed.setIfInBounds i true) (a.put oi.dst v) w)
 (hi : l.drop i = oi :: tl := by rfl) (hw : Region.wanted oi (yielded l.toArray a.tmps) = true := by rfl)
 (hv : ∀ w, S w → (execOp a.eval oi).run P w = .ok (.value v) w := by intro w hSw; (try dsimp only at hSw); go_simp; (try with_reducible rfl))
 (hQ : ∀ c a w, Q (.panic c) (a.put oi.dst v) w → Q (.panic c) a w := by exact fun _ _ _ h => h)
 (hs : Region.noSelect l.toArray = true := by kernel_rfl) (hf : Region.free md l.toArray listed i = true := by kernel_rfl) (hr : (Region.ready md l.toArray listed).contains i = true := by kernel_rfl) (hn : (decide (i < n) && tailWaits md l.toArray n i && closedB md l.toArray listed) = true := by kernel_rfl) : wpAnyK P md l.toArray Q S n (fuel + 1) listed a w :=
 kU hS h hi hw hv hQ hs hf hr hn
theorem rK (rs : List Nat) {fuel : Nat} {listed : Array Bool} {a : Act} {w : World} (h : AllReadyK P md ops Q S n fuel listed a w rs) (hr : Region.ready md ops listed = rs := by kernel_rfl) (hne : rs ≠ [] := by simp) : wpAnyK P md ops Q S n (fuel + 1) listed a w :=
 wpAnyK_ready hr hne h
theorem xK (i : Nat) {l tl : List Oper} {fuel : Nat} {listed : Array Bool} {a : Act} {w : World} {o : Oper} {rs : List Nat}
 (h : ∀ K' : Act → World → Prop, Shut (∀ a w, (i < n → S w) → ((i < n → S w) → wpAnyK P md l.toArray Q S n fuel (listed.setIfInBounds i true) a w) → K' a w) → if Region.wanted o (yielded l.toArray a.tmps) = true then Oper.wp P o a w K' Q else K' (a.put o.dst undef) w)
 (hs : AllReadyK P md l.toArray Q S n fuel listed a w rs) (ho : l.drop i = o :: tl := by rfl) : AllReadyK P md l.toArray Q S n fuel listed a w (i :: rs) :=
 AllReadyK.consL ho h hs
theorem nK {fuel : Nat} {listed : Array Bool} {a : Act} {w : World} : AllReadyK P md ops Q S n fuel listed a w [] := AllReadyK.nil
theorem dK {listed : Array Bool} {a : Act} {w : World} (h : Q .normal a w) (fuel : Nat) (hr : Region.ready md ops listed = [] := by kernel_rfl) : wpAnyK P md ops Q S n fuel listed a w :=
 wpAnyK_done hr h fuel
theorem wp_region_K {id : Nat} {a : Act} {w : World} (S : World → Prop) (n : Nat) (hm : P.follows .mixedOrders = true) (hS : S w.drew)
 (h : S w.drew → wpAnyK P .any ops Q S n ops.size (Array.replicate ops.size false) a w.drew) : (Code.region id ops true).wp P Q a w :=
 wp_region_any hm (wpAny_of_K _ _ _ _ (h hS))
end
theorem kA (a : Act) (v : Value) : a.put none v = a := rfl
theorem kB (a : Act) (d : Tmp) (v : Value) : a.put (some d) v = { a with tmps := a.tmps.setIfInBounds d v } := rfl
theorem kC {α : Type _} (l : List α) (i : Nat) (a : α) : l.toArray.setIfInBounds i a = (l.set i a).toArray := List.setIfInBounds_toArray ..
theorem kD {α : Type _} (x a : α) (l : List α) : (x :: l).set 0 a = a :: l := rfl
theorem kE {α : Type _} (x a : α) (l : List α) (i : Nat) : (x :: l).set (i + 1) a = x :: l.set i a := rfl
theorem kT {P : Program} {Q : Exit → Act → World → Prop} {md : Region.Mode} {S : World → Prop} {n : Nat} {l tl : List Oper} {i : Nat} {oi : Oper} {v : Value} {fuel : Nat} {listed : Array Bool} {a : Act} {w : World} (hi : l.drop i = oi :: tl)
 (hQ : ∀ c a w, Q (.panic c) (a.put oi.dst v) w → Q (.panic c) a w) (hy : YieldsIf P l.toArray S oi v a) (hS : S w)
 (h : wpAnyK P md l.toArray Q S n fuel (listed.setIfInBounds i true) (a.put oi.dst v) w)
 (hs : Region.noSelect l.toArray = true := by kernel_rfl) (hf : Region.free md l.toArray listed i = true := by kernel_rfl) (hr : (Region.ready md l.toArray listed).contains i = true := by kernel_rfl) (hn : (decide (i < n) && tailWaits md l.toArray n i && closedB md l.toArray listed) = true := by kernel_rfl) : wpAnyK P md l.toArray Q S n (fuel + 1) listed a w :=
 wpAnyK_takeL hi hs hf hr hn hQ hy hS h
end Go