/- RegisterKeeps: what the statement's own function keeps in memory (the pattern, the loops, the errors, all moves), told by roles. -/
import Derived.Test.YtafnadaahnkcmaaKeep0
import Derived.Test.YtafnadaahnkcmaaNew
namespace Go.Proofs.Ytafnadaahnkcmaa
open Go.RowKit
set_option linter.unusedVariables false

def gS (σ : Nat → Nat) (v : Value) (r : Nat) : Nat → Nat := fun b => if v.ownBlock = some b then r else σ b
theorem Row.grow {σ : Nat → Nat} {r : Nat} {w wx w' : World} {e : TypeId} {size n n' : Nat} {v v' : Value} {xs xs' : List Value} {B : Nat} (h : Row σ r w e size v n xs) (hx : Ext w wx) (ho : w'.ownsRow B e size v' n' xs') (hgr : wx.grownBy w' v.ownBlock) (hf : FreshOr wx v v') :
    Row (gS σ v' r) r w' e size v' n' xs' ∧ (∀ b, b < w.heap.size → gS σ v' r b = σ b) ∧ Only (fun b => v.ownBlock = some b) w w' ∧ (∀ b, v'.ownBlock = some b → b < w'.heap.size ∧ (σ b = r ∨ w.heap.size ≤ b)) := by
  refine ⟨⟨owns_weak ho (Nat.zero_le _), fun b hb => by unfold gS; rw [if_pos hb]⟩, fun b hb => ?_, (Only.of_ext hx).tr (only_grown hgr), fun b hb => ⟨(ho.lt b hb).2, ?_⟩⟩
  · unfold gS
    split
    · rename_i hv
      rcases hf with hf | ⟨g, hg, hle⟩
      · exact (h.2 b (hf ▸ hv)).symm
      · rw [hg] at hv; cases hv; have := hx.size; omega
    · rfl
  · rcases hf with hf | ⟨g, hg, hle⟩
    · exact .inl (h.2 b (hf ▸ hb))
    · rw [hg] at hb; cases hb; exact .inr (Nat.le_trans hx.size hle)

def lpC (l : Loop) : List Value := [.int .i64 l.dead, .int .i64 l.noise, .int .i64 l.blur, .int .i64 l.step]
def lpL (ls : List Loop) (n : Nat) : List Value := (List.range n).flatMap fun i => lpC (ls.getD i default)
def mpI (f : Nat → Int) (n : Nat) : List Value := (List.range n).map fun i => .int .i64 (f i)
theorem mpI_succ (f : Nat → Int) (n : Nat) : mpI f (n + 1) = mpI f n ++ [.int .i64 (f n)] := by simp [mpI, List.range_succ]
theorem mpI_eq (f : Nat → Int) (n : Nat) : mpI f n = ((List.range n).map f).map (.int .i64) := by simp [mpI]
theorem mpI_congr {f g : Nat → Int} {n : Nat} (h : ∀ i, i < n → f i = g i) : mpI f n = mpI g n := List.map_congr_left fun i hi => by rw [h i (List.mem_range.1 hi)]
theorem mpV_congr {f g : Nat → Value} {n : Nat} (h : ∀ i, i < n → f i = g i) : (List.range n).map f = (List.range n).map g := List.map_congr_left fun i hi => h i (List.mem_range.1 hi)
theorem lpL_snoc (ls : List Loop) (x : Loop) : lpL (ls ++ [x]) (ls.length + 1) = lpL ls ls.length ++ lpC x := by
  unfold lpL
  rw [List.range_succ, List.flatMap_append]
  congr 1
  · apply flat_congr
    intro i hi
    have hi' : i < ls.length := List.mem_range.1 hi
    congr 1
    simp [List.getD, List.getElem?_append_left hi']
  · simp [List.getD]

/-- The pattern (n1 colours), the loops (n2), the errors (n3), the rows of moves (n4). Roles: 1, 2, 3, 4; 5 + i a row of moves; 0 what is not kept here. -/
structure KSt (B0 : Nat) (w : World) (n1 n2 n3 n4 : Nat) (ls : List Loop) (es : Nat → Int) (ms : Nat → List Int) (mv : Nat → Value) (v7 v8 v9 v10 : Value) (σ : Nat → Nat) : Prop where
  ble : B0 ≤ w.heap.size
  hlo : ∀ b, σ b ≠ 0 → B0 ≤ b
  hlt : ∀ b, σ b ≠ 0 → b < w.heap.size
  pat : Row σ 1 w 3 1 v7 (n1 + 1) ((kPat n1).map (.int .i64))
  lps : Row σ 2 w 36 4 v8 n2 (lpL ls n2)
  err : Row σ 3 w 3 1 v9 n3 (mpI es n3)
  mov : Row σ 4 w 22 1 v10 n4 ((List.range n4).map mv)
  ms : ∀ i, i < n4 → Row σ (5 + i) w 3 1 (mv i) (ms i).length ((ms i).map (.int .i64))

section
variable {B0 : Nat} {w w' : World} {n1 n2 n3 n4 : Nat} {ls : List Loop} {es : Nat → Int} {ms : Nat → List Int} {mv : Nat → Value} {v7 v8 v9 v10 : Value} {σ : Nat → Nat}
theorem KSt.only {S : Nat → Prop} (h : KSt B0 w n1 n2 n3 n4 ls es ms mv v7 v8 v9 v10 σ) (k : Only S w w') (hs : ∀ b, S b → σ b = 0) : KSt B0 w' n1 n2 n3 n4 ls es ms mv v7 v8 v9 v10 σ := by
  have no : ∀ r, r ≠ 0 → ∀ b, σ b = r → ¬ S b := fun r hr b hb hS => hr (hb.symm.trans (hs b hS))
  exact ⟨Nat.le_trans h.ble k.size, h.hlo, fun b hb => Nat.lt_of_lt_of_le (h.hlt b hb) k.size, h.pat.only k (no 1 (by omega)), h.lps.only k (no 2 (by omega)), h.err.only k (no 3 (by omega)), h.mov.only k (no 4 (by omega)), fun i hi => (h.ms i hi).only k (no _ (by omega))⟩
theorem KSt.ext (h : KSt B0 w n1 n2 n3 n4 ls es ms mv v7 v8 v9 v10 σ) (k : Ext w w') : KSt B0 w' n1 n2 n3 n4 ls es ms mv v7 v8 v9 v10 σ :=
  h.only (S := fun _ => False) (Only.of_ext k) (fun _ hk => hk.elim)

theorem KSt.start {v7 : Value} (h : w.ownsRow B0 3 1 v7 1 [.int .i64 0]) (hB : B0 ≤ w.heap.size) : KSt B0 w 0 0 0 0 [] (fun _ => 0) (fun _ => []) (fun _ => .slice none 0 0) v7 (.slice none 0 0) (.slice none 0 0) (.slice none 0 0) (gS (fun _ => 0) v7 1) := by
  refine ⟨hB, fun b hb => ?_, fun b hb => ?_, ⟨owns_weak h (Nat.zero_le _), fun b hb => by unfold gS; rw [if_pos hb]⟩, ⟨World.ownsRow_nil _ _ _ _, fun b hb => by cases hb⟩, ⟨World.ownsRow_nil _ _ _ _, fun b hb => by cases hb⟩, ⟨World.ownsRow_nil _ _ _ _, fun b hb => by cases hb⟩, fun i hi => by omega⟩
  all_goals
    unfold gS at hb
    split at hb
    · rename_i hv; first | exact (h.lt b hv).2 | exact (h.lt b hv).1
    · exact (hb rfl).elim

theorem gS_hlt {v' : Value} {r : Nat} (h : ∀ b, σ b ≠ 0 → b < w.heap.size) (hs : w.heap.size ≤ w'.heap.size) (hv : ∀ b, v'.ownBlock = some b → b < w'.heap.size ∧ (σ b = r ∨ w.heap.size ≤ b)) : ∀ b, gS σ v' r b ≠ 0 → b < w'.heap.size := fun b hb => by
  unfold gS at hb
  split at hb
  · rename_i h1; exact (hv b h1).1
  · exact Nat.lt_of_lt_of_le (h b hb) hs
theorem gS_hlo {v' : Value} {r : Nat} (h : ∀ b, σ b ≠ 0 → B0 ≤ b) (hs : B0 ≤ w.heap.size) (hr : r ≠ 0) (hv : ∀ b, v'.ownBlock = some b → b < w'.heap.size ∧ (σ b = r ∨ w.heap.size ≤ b)) : ∀ b, gS σ v' r b ≠ 0 → B0 ≤ b := fun b hb => by
  unfold gS at hb
  split at hb
  · rename_i h1
    rcases (hv b h1).2 with h2 | h2
    · exact h b (by omega)
    · omega
  · exact h b hb
theorem Row.other {r r' : Nat} {e e' : TypeId} {size size' n n' : Nat} {v v' v0 : Value} {xs xs' : List Value} (h : Row σ r w e size v n xs) (h0 : Row σ r' w e' size' v0 n' xs') (hr : r ≠ r') (hold : ∀ b, b < w.heap.size → gS σ v' r' b = σ b) (k : Only (fun b => v0.ownBlock = some b) w w') :
    Row (gS σ v' r') r w' e size v n xs :=
  ⟨owns_only h.1 k fun b hb hS => by have h1 := h.2 b hb; have h2 := h0.2 b hS; omega, fun b hb => (hold b (h.1.lt b hb).2).trans (h.2 b hb)⟩

theorem KSt.app1 {wx : World} {v' : Value} {B : Nat} (h : KSt B0 w n1 n2 n3 n4 ls es ms mv v7 v8 v9 v10 σ) (hx : Ext w wx) (ho : w'.ownsRow B 3 1 v' (n1 + 1 + 1) ((kPat n1).map (.int .i64) ++ [.int .i64 (30000 * ((n1 : Int) + 1))])) (hg : wx.grownBy w' v7.ownBlock) (hf : FreshOr wx v7 v') :
    ∃ σ', KSt B0 w' (n1 + 1) n2 n3 n4 ls es ms mv v' v8 v9 v10 σ' ∧ (∀ b, b < w.heap.size → σ' b = σ b) ∧ Only (fun b => σ b ≠ 0) w w' := by
  have e : (kPat (n1 + 1)).map (Value.int .i64) = (kPat n1).map (.int .i64) ++ [.int .i64 (30000 * ((n1 : Int) + 1))] := by
    unfold kPat; rw [List.range_succ, List.map_append, List.map_append]; rfl
  obtain ⟨g1, g2, g3, g4⟩ := h.pat.grow hx ho hg hf
  refine ⟨_, ⟨Nat.le_trans h.ble g3.size, gS_hlo h.hlo h.ble (by omega) g4, gS_hlt h.hlt g3.size g4, by rw [e]; exact g1, h.lps.other h.pat (by omega) g2 g3, h.err.other h.pat (by omega) g2 g3, h.mov.other h.pat (by omega) g2 g3, fun i hi => (h.ms i hi).other h.pat (by omega) g2 g3⟩, g2, g3.weak fun b _ hb h0 => by have := h.pat.2 b hb; omega⟩
theorem KSt.app2 {wx : World} {v' : Value} {B : Nat} {x : Loop} (h : KSt B0 w n1 n2 n3 n4 ls es ms mv v7 v8 v9 v10 σ) (hl : ls.length = n2) (hx : Ext w wx) (ho : w'.ownsRow B 36 4 v' (n2 + 1) (lpL ls n2 ++ lpC x)) (hg : wx.grownBy w' v8.ownBlock) (hf : FreshOr wx v8 v') :
    ∃ σ', KSt B0 w' n1 (n2 + 1) n3 n4 (ls ++ [x]) es ms mv v7 v' v9 v10 σ' ∧ (∀ b, b < w.heap.size → σ' b = σ b) ∧ Only (fun b => σ b ≠ 0) w w' := by
  obtain ⟨g1, g2, g3, g4⟩ := h.lps.grow hx ho hg hf
  refine ⟨_, ⟨Nat.le_trans h.ble g3.size, gS_hlo h.hlo h.ble (by omega) g4, gS_hlt h.hlt g3.size g4, h.pat.other h.lps (by omega) g2 g3, by rw [← hl, lpL_snoc, hl]; exact g1, h.err.other h.lps (by omega) g2 g3, h.mov.other h.lps (by omega) g2 g3, fun i hi => (h.ms i hi).other h.lps (by omega) g2 g3⟩, g2, g3.weak fun b _ hb h0 => by have := h.lps.2 b hb; omega⟩
theorem KSt.app3 {wx : World} {v' : Value} {B : Nat} {x : Int} (h : KSt B0 w n1 n2 n3 n4 ls es ms mv v7 v8 v9 v10 σ) (hx : Ext w wx) (ho : w'.ownsRow B 3 1 v' (n3 + 1) (mpI es n3 ++ [.int .i64 x])) (hg : wx.grownBy w' v9.ownBlock) (hf : FreshOr wx v9 v') :
    ∃ σ', KSt B0 w' n1 n2 (n3 + 1) n4 ls (upd es n3 x) ms mv v7 v8 v' v10 σ' ∧ (∀ b, b < w.heap.size → σ' b = σ b) ∧ Only (fun b => σ b ≠ 0) w w' := by
  have e : mpI (upd es n3 x) (n3 + 1) = mpI es n3 ++ [.int .i64 x] := by
    rw [mpI_succ, upd_same, mpI_congr fun i hi => upd_other es n3 i x (by omega)]
  obtain ⟨g1, g2, g3, g4⟩ := h.err.grow hx ho hg hf
  refine ⟨_, ⟨Nat.le_trans h.ble g3.size, gS_hlo h.hlo h.ble (by omega) g4, gS_hlt h.hlt g3.size g4, h.pat.other h.err (by omega) g2 g3, h.lps.other h.err (by omega) g2 g3, by rw [e]; exact g1, h.mov.other h.err (by omega) g2 g3, fun i hi => (h.ms i hi).other h.err (by omega) g2 g3⟩, g2, g3.weak fun b _ hb h0 => by have := h.err.2 b hb; omega⟩
theorem KSt.app4 {wx : World} {v' : Value} {B : Nat} (h : KSt B0 w n1 n2 n3 n4 ls es (fun _ => []) (fun _ => .slice none 0 0) v7 v8 v9 v10 σ) (hx : Ext w wx) (ho : w'.ownsRow B 22 1 v' (n4 + 1) ((List.range n4).map (fun _ => Value.slice none 0 0) ++ [.slice none 0 0])) (hg : wx.grownBy w' v10.ownBlock) (hf : FreshOr wx v10 v') :
    ∃ σ', KSt B0 w' n1 n2 n3 (n4 + 1) ls es (fun _ => []) (fun _ => .slice none 0 0) v7 v8 v9 v' σ' ∧ (∀ b, b < w.heap.size → σ' b = σ b) ∧ Only (fun b => σ b ≠ 0) w w' := by
  obtain ⟨g1, g2, g3, g4⟩ := h.mov.grow hx ho hg hf
  refine ⟨_, ⟨Nat.le_trans h.ble g3.size, gS_hlo h.hlo h.ble (by omega) g4, gS_hlt h.hlt g3.size g4, h.pat.other h.mov (by omega) g2 g3, h.lps.other h.mov (by omega) g2 g3, h.err.other h.mov (by omega) g2 g3, by rw [List.range_succ, List.map_append]; exact g1, fun i hi => ⟨World.ownsRow_nil _ _ _ _, fun b hb => by cases hb⟩⟩, g2, g3.weak fun b _ hb h0 => by have := h.mov.2 b hb; omega⟩

/-- A row of one's own as a block; one of its cells is another. -/
theorem owns_blk {B : Nat} {e : TypeId} {v : Value} {n : Nat} {xs : List Value} (h : w.ownsRow B e 1 v n xs) (hn : 0 < n) : ∃ g c cur, v = .slice (some ⟨g, 0, none⟩) n c ∧ Blk w g cur e ∧ n ≤ cur.size ∧ cur.toList.take n = xs := by
  obtain ⟨h1, h2⟩ := h
  rcases h2 with ⟨_, h0⟩ | ⟨g, c, cur, hv, _, hh, h3, _, h5, h6⟩
  · omega
  · exact ⟨g, c, cur, hv, hh, by omega, by simpa using h6⟩
theorem owns_put {B : Nat} {e : TypeId} {g c n i : Nat} {cur : Array Value} {u : Value} {xs : List Value} (h : w.ownsRow B e 1 (.slice (some ⟨g, 0, none⟩) n c) n xs) (hb : Blk w g cur e) (hb1 : Blk w' g (cur.setIfInBounds i u) e) :
    w'.ownsRow B e 1 (.slice (some ⟨g, 0, none⟩) n c) n (xs.set i u) := by
  obtain ⟨h1, h2⟩ := h
  refine ⟨by rw [List.length_set]; exact h1, ?_⟩
  rcases h2 with ⟨hv, _⟩ | ⟨g', c', cur', hv, h3, hh, h4, h5, h6, h7⟩
  · cases hv
  · cases hv
    have e1 : cur' = cur := by
      have := hh.symm.trans hb
      simp only [Option.some.injEq, Obj.cells.injEq] at this
      exact this.1
    subst e1
    refine .inr ⟨g, c, _, rfl, h3, hb1, h4, h5, by rw [Array.size_setIfInBounds]; exact h6, ?_⟩
    rw [Array.toList_setIfInBounds, List.take_set, h7]
theorem mpI_set {n i : Nat} {x : Int} (hi : i < n) : (mpI es n).set i (.int .i64 x) = mpI (upd es i x) n := by
  apply List.ext_getElem?
  intro j
  unfold mpI upd
  rw [List.getElem?_set]
  by_cases hj : i = j
  · subst hj; simp [hi]
  · rw [if_neg hj]
    simp only [List.getElem?_map]
    by_cases hjn : j < n
    · simp [hjn, Ne.symm hj]
    · simp [hjn]
theorem mpV_set {n i : Nat} {x : Value} (hi : i < n) : ((List.range n).map mv).set i x = (List.range n).map (upd mv i x) := by
  apply List.ext_getElem?
  intro j
  unfold upd
  rw [List.getElem?_set]
  by_cases hj : i = j
  · subst hj; simp [hi]
  · rw [if_neg hj]
    simp only [List.getElem?_map]
    by_cases hjn : j < n
    · simp [hjn, Ne.symm hj]
    · simp [hjn]

theorem row_form {B : Nat} {e : TypeId} {size : Nat} {v : Value} {n : Nat} {xs : List Value} (h : w.ownsRow B e size v n xs) : ∃ a c, v = .slice a n c := by
  rcases h.2 with ⟨rfl, rfl⟩ | ⟨g, cap, cur, rfl, _⟩
  · exact ⟨_, _, rfl⟩
  · exact ⟨_, _, rfl⟩
theorem row_pos {B : Nat} {e : TypeId} {size : Nat} {v : Value} {n : Nat} {xs : List Value} (h : w.ownsRow B e size v n xs) (hn : 0 < n) : ∃ g c, v = .slice (some ⟨g, 0, none⟩) n c := by
  rcases h.2 with ⟨rfl, rfl⟩ | ⟨g, cap, cur, rfl, _⟩
  · omega
  · exact ⟨g, cap, rfl⟩
/-- One error is another. -/
theorem KSt.setErr {b i : Nat} {x : Int} (h : KSt B0 w n1 n2 n3 n4 ls es ms mv v7 v8 v9 v10 σ) (hb : v9.ownBlock = some b) (hi : i < n3) (o : Only (fun k => k = b) w w') (hown : w'.ownsRow 0 3 1 v9 n3 ((mpI es n3).set i (.int .i64 x))) :
    KSt B0 w' n1 n2 n3 n4 ls (upd es i x) ms mv v7 v8 v9 v10 σ := by
  have hb : σ b = 3 := h.err.2 b hb
  have no : ∀ r, r ≠ 3 → ∀ k, σ k = r → ¬ k = b := fun r hr k hk e => by subst e; omega
  exact ⟨Nat.le_trans h.ble o.size, h.hlo, fun k hk => Nat.lt_of_lt_of_le (h.hlt k hk) o.size, h.pat.only o (no 1 (by omega)), h.lps.only o (no 2 (by omega)), ⟨by rw [← mpI_set hi]; exact hown, h.err.2⟩, h.mov.only o (no 4 (by omega)), fun j hj => (h.ms j hj).only o (no _ (by omega))⟩
/-- One row of moves has grown; its head is not yet stored: the heads are as they were. -/
theorem KSt.heads {wx w4 : World} {i : Nat} (h : KSt B0 w n1 n2 n3 n4 ls es ms mv v7 v8 v9 v10 σ) (hi : i < n4) (hx : Ext w wx) (hg : wx.grownBy w4 (mv i).ownBlock) : Only (fun b => (mv i).ownBlock = some b) w w4 ∧ w4.ownsRow 0 22 1 v10 n4 ((List.range n4).map mv) := by
  have o : Only (fun b => (mv i).ownBlock = some b) w w4 := (Only.of_ext hx).tr (only_grown hg)
  exact ⟨o, owns_only h.mov.1 o fun b hb hS => by have h1 := h.mov.2 b hb; have h2 := (h.ms i hi).2 b hS; omega⟩
/-- One row of moves has grown. -/
theorem KSt.move {wx w4 w5 : World} {i b B : Nat} {x : Int} {v' : Value} (h : KSt B0 w n1 n2 n3 n4 ls es ms mv v7 v8 v9 v10 σ) (hi : i < n4) (hx : Ext w wx) (ho : w4.ownsRow B 3 1 v' ((ms i).length + 1) ((ms i).map (.int .i64) ++ [.int .i64 x])) (hg : wx.grownBy w4 (mv i).ownBlock) (hf : FreshOr wx (mv i) v')
    (hb : v10.ownBlock = some b) (o5 : Only (fun k => k = b) w4 w5) (hown : w5.ownsRow 0 22 1 v10 n4 (((List.range n4).map mv).set i v')) :
    KSt B0 w5 n1 n2 n3 n4 ls es (upd ms i (ms i ++ [x])) (upd mv i v') v7 v8 v9 v10 (gS σ v' (5 + i)) ∧ (∀ b, b < w.heap.size → gS σ v' (5 + i) b = σ b) ∧ Only (fun k => σ k ≠ 0) w w5 := by
  obtain ⟨g1, g2, g3, g4⟩ := (h.ms i hi).grow hx ho hg hf
  have hsb : σ b = 4 := h.mov.2 b hb
  have hbw : b < w.heap.size := h.hlt b (by omega)
  have o : Only (fun k => (mv i).ownBlock = some k ∨ k = b) w w5 := (g3.weak fun k _ hk => .inl hk).tr (o5.weak fun k _ hk => .inr hk)
  have keep : ∀ {r : Nat} {e : TypeId} {size n : Nat} {v : Value} {xs : List Value}, Row σ r w e size v n xs → r ≠ 4 → r ≠ 5 + i → Row (gS σ v' (5 + i)) r w5 e size v n xs := fun hr h4 h5 =>
    ⟨owns_only hr.1 o fun k hk hS => by
      have h1 := hr.2 k hk
      rcases hS with hS | rfl
      · have := (h.ms i hi).2 k hS; omega
      · omega, fun k hk => (g2 k (hr.1.lt k hk).2).trans (hr.2 k hk)⟩
  have hvb : ∀ k, v'.ownBlock = some k → k ≠ b := fun k hk e => by
    rcases (g4 k hk).2 with h1 | h1
    · rw [e, hsb] at h1; omega
    · omega
  refine ⟨⟨Nat.le_trans h.ble o.size, gS_hlo h.hlo h.ble (by omega) g4, fun k hk => Nat.lt_of_lt_of_le (gS_hlt h.hlt g3.size g4 k hk) o5.size, keep h.pat (by omega) (by omega), keep h.lps (by omega) (by omega), keep h.err (by omega) (by omega), ⟨by rw [← mpV_set hi]; exact hown, fun k hk => (g2 k (h.mov.1.lt k hk).2).trans (h.mov.2 k hk)⟩, fun j hj => ?_⟩, g2, o.weak fun k _ hk h0 => ?_⟩
  rotate_left
  · rcases hk with hk | hk
    · have := (h.ms i hi).2 k hk; omega
    · rw [hk] at h0; omega
  by_cases e : j = i
  · subst e
    rw [upd_same, upd_same]
    exact ⟨by rw [List.length_append, List.map_append]; exact owns_only (owns_weak ho (Nat.zero_le _)) o5 hvb, g1.2⟩
  · rw [upd_other _ _ _ _ e, upd_other _ _ _ _ e]
    exact keep (h.ms j hj) (by omega) (by omega)
end
end Go.Proofs.Ytafnadaahnkcmaa
