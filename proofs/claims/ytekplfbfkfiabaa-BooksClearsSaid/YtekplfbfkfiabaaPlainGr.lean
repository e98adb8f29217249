/- Groups in plain words, step by step as the program takes them. -/
import Derived.Test.YtekplfbfkfiabaaBkSub
namespace Go.Proofs.Ytekplfbfkfiabaa
open Go.RowKit
set_option linter.unusedVariables false
set_option linter.unusedSimpArgs false

def inN (u : Int) : Bool := nIn u (-1000000000) 1000000000
def sumN (l : List Int) : Int := isum (l.map fun u => if inN u then u else 0)
theorem sumN_take (xs : List Int) (k : Nat) (hk : k < xs.length) : sumN (xs.take (k + 1)) = sumN (xs.take k) + if inN xs[k] then xs[k] else 0 := by
  unfold sumN
  rw [List.take_succ_eq_append_getElem hk, List.map_append, List.map_singleton, isum_snoc]
theorem sumN_range (xs : List Int) : -(xs.length * 1000000000 : Int) ≤ sumN xs ∧ sumN xs ≤ xs.length * 1000000000 := by
  unfold sumN
  induction xs with
  | nil => simp [isum]
  | cons x xs ih =>
    simp only [List.map_cons, isum, List.length_cons]
    have h : -1000000000 ≤ (if inN x then x else 0) ∧ (if inN x then x else 0) ≤ 1000000000 := by
      split
      · rename_i h; exact (nIn_iff x _ _).1 h
      · omega
    push_cast
    omega
def badN (xs : List Int) : Bool := xs.any fun u => !nIn u (-1000000000) 1000000000
theorem badN_ok {ws : List Int} (h : badN ws = false) : ∀ u ∈ ws, -1000000000 ≤ u ∧ u ≤ 1000000000 := fun u hu => by
  unfold badN at h
  rw [List.any_eq_false] at h
  have h2 := h u hu
  rw [Bool.not_eq_true, Bool.not_eq_false'] at h2
  exact (nIn_iff _ _ _).1 h2
def groupsE (l : List Int) : Int := if 10 < l.length then 2 else if badN l = true then 6 else if sumN l ≠ 0 then 9 else 0
theorem groupsE_ways (l : List Int) : (10 < l.length ∧ groupsE l = 2) ∨ (l.length ≤ 10 ∧ ((badN l = true ∧ groupsE l = 6) ∨ (badN l = false ∧ ((sumN l ≠ 0 ∧ groupsE l = 9) ∨ (sumN l = 0 ∧ groupsE l = 0))))) := by
  unfold groupsE
  by_cases q1 : 10 < l.length
  · exact .inl ⟨q1, if_pos q1⟩
  · refine .inr ⟨by omega, ?_⟩
    rw [if_neg q1]
    rcases q2 : badN l with _ | _
    · refine .inr ⟨rfl, ?_⟩
      rw [if_neg (by decide)]
      by_cases q3 : sumN l = 0
      · exact .inr ⟨q3, if_neg (fun h => h q3)⟩
      · exact .inl ⟨q3, if_pos q3⟩
    · exact .inl ⟨rfl, if_pos rfl⟩

/-- The sums of sets: one party's step, a row. -/
def sStep (l : List Int) (set : Nat) (S : List Int) (i : Nat) : List Int := if lowN set = 2 ^ i then S.set set (gI S (set ^^^ lowN set) + gI l i) else S
def sRow (l : List Int) (set k : Nat) (S : List Int) : List Int := (List.range k).foldl (sStep l set) S
theorem sRow_succ (l : List Int) (set k : Nat) (S : List Int) : sRow l set (k + 1) S = sStep l set (sRow l set k S) k := by
  unfold sRow; rw [List.range_succ, List.foldl_append]; rfl
/-- The most groups: a subset's step. -/
def mStep (set : Nat) (S M : List Int) (s : Nat) : List Int := if s &&& lowN set ≠ 0 ∧ gI S s = 0 then M.set set (max (gI M set) (gI M (set ^^^ s) + 1)) else M
def mRow (set : Nat) (S M : List Int) : List Int := if gI S set ≠ 0 then M.set set (-1) else (subL set).foldl (mStep set S) (M.set set (-1))
def rowS (l : List Int) (T : List Int × List Int) (set : Nat) : List Int × List Int := (sRow l set l.length T.1, mRow set (sRow l set l.length T.1) T.2)
def tab (l : List Int) : Nat → List Int × List Int
  | 0 => (List.replicate (2 ^ l.length) 0, List.replicate (2 ^ l.length) 0)
  | k + 1 => rowS l (tab l k) (k + 1)
def bStep (S M : List Int) (set b s : Nat) : Nat :=
  if s &&& lowN set = 0 ∨ gI S s ≠ 0 ∨ gI M (set ^^^ s) + 1 ≠ gI M set then b else if b = 0 ∨ lowN (s ^^^ b) &&& s ≠ 0 then s else b
def bestO (S M : List Int) (set : Nat) : Nat := (subL set).foldl (bStep S M set) 0
def mark (b : Nat) (num : Int) (k : Nat) (o : List Int) : List Int := (List.range k).foldl (fun o i => if b >>> i &&& 1 = 1 then o.set i num else o) o
theorem mark_succ (b : Nat) (num : Int) (k : Nat) (o : List Int) : mark b num (k + 1) o = if b >>> k &&& 1 = 1 then (mark b num k o).set k num else mark b num k o := by
  unfold mark; rw [List.range_succ, List.foldl_append]; rfl
def grp (S M : List Int) : Nat → Nat → Nat → List Int → Option (List Int)
  | 0, set, _, o => if set = 0 then some o else none
  | f + 1, set, num, o => if set = 0 then some o else grp S M f (set ^^^ bestO S M set) (num + 1) (mark (bestO S M set) num o.length o)
/-- The groups, if the program comes to an end. -/
def groupsP (l : List Int) : Option (List Int) := grp (tab l (2 ^ l.length - 1)).1 (tab l (2 ^ l.length - 1)).2 11 (2 ^ l.length - 1) 0 (List.replicate l.length 0)

theorem sStep_len (l : List Int) (set : Nat) (S : List Int) (i : Nat) : (sStep l set S i).length = S.length := by unfold sStep; split <;> simp
theorem sRow_len (l : List Int) (set : Nat) (S : List Int) : ∀ k, (sRow l set k S).length = S.length
  | 0 => rfl
  | k + 1 => by rw [sRow_succ, sStep_len, sRow_len l set S k]
theorem mStep_len (set : Nat) (S M : List Int) (s : Nat) : (mStep set S M s).length = M.length := by unfold mStep; split <;> simp
theorem mFold_len (set : Nat) (S : List Int) (L : List Nat) : ∀ M : List Int, (L.foldl (mStep set S) M).length = M.length := by
  induction L with
  | nil => intro M; rfl
  | cons x xs ih => intro M; rw [List.foldl_cons, ih, mStep_len]
theorem mRow_len (set : Nat) (S M : List Int) : (mRow set S M).length = M.length := by
  unfold mRow; split
  · simp
  · rw [mFold_len]; simp
theorem tab_len (l : List Int) : ∀ k, (tab l k).1.length = 2 ^ l.length ∧ (tab l k).2.length = 2 ^ l.length
  | 0 => by simp [tab]
  | k + 1 => by
    obtain ⟨h1, h2⟩ := tab_len l k
    show (sRow l (k + 1) l.length (tab l k).1).length = _ ∧ (mRow (k + 1) _ (tab l k).2).length = _
    rw [sRow_len, mRow_len]
    exact ⟨h1, h2⟩
theorem mark_len (b : Nat) (num : Int) (o : List Int) : ∀ k, (mark b num k o).length = o.length
  | 0 => rfl
  | k + 1 => by rw [mark_succ]; split <;> simp [mark_len b num o k]
/-- What a table holds is small. -/
def Small (B : Int) (S : List Int) : Prop := ∀ x ∈ S, -B ≤ x ∧ x ≤ B
theorem gI_small {B : Int} {S : List Int} (h : Small B S) (hB : 0 ≤ B) (i : Nat) : -B ≤ gI S i ∧ gI S i ≤ B := by
  unfold gI
  rw [List.getD_eq_getElem?_getD]
  cases hg : S[i]? with
  | none => simp; omega
  | some y => exact h y (List.mem_of_getElem? hg)
theorem Small.set {B : Int} {S : List Int} (h : Small B S) {x : Int} (hx : -B ≤ x ∧ x ≤ B) (i : Nat) : Small B (S.set i x) := fun y hy => by
  rcases List.mem_or_eq_of_mem_set hy with hy | rfl
  · exact h y hy
  · exact hx
theorem Small.mono {B C : Int} {S : List Int} (h : Small B S) (hc : B ≤ C) : Small C S := fun x hx => by have := h x hx; omega
/-- The tables in memory. -/
structure GM (w wr : World) (b8 b9 gs gm N : Nat) (S M : List Int) : Prop where
  h8 : Blk wr b8 #[.slice (some ⟨gs, 0, none⟩) N N] 22
  h9 : Blk wr b9 #[.slice (some ⟨gm, 0, none⟩) N N] 22
  hs : Blk wr gs (iA S) 3
  hm : Blk wr gm (iA M) 3
  ls : S.length = N
  lm : M.length = N
  far : w.heap.size ≤ gs ∧ w.heap.size ≤ gm ∧ w.heap.size ≤ b8 ∧ w.heap.size ≤ b9
  ne : gs ≠ gm ∧ gs ≠ b8 ∧ gs ≠ b9 ∧ gm ≠ b8 ∧ gm ≠ b9 ∧ b8 ≠ b9
  x : Ext w wr
section
variable {w wr w1 : World} {b8 b9 gs gm N : Nat} {S M : List Int}
theorem GM.ext (h : GM w wr b8 b9 gs gm N S M) (k : Ext wr w1) : GM w w1 b8 b9 gs gm N S M := ⟨h.h8.ext k, h.h9.ext k, h.hs.ext k, h.hm.ext k, h.ls, h.lm, h.far, h.ne, h.x.tr k⟩
theorem GM.only (h : GM w wr b8 b9 gs gm N S M) {b : Nat} (k : Only (fun q => q = b) wr w1) (h1 : b ≠ b8 ∧ b ≠ b9 ∧ b ≠ gs ∧ b ≠ gm) (hb : w.heap.size ≤ b) : GM w w1 b8 b9 gs gm N S M :=
  ⟨h.h8.only k (fun e => h1.1 e.symm), h.h9.only k (fun e => h1.2.1 e.symm), h.hs.only k (fun e => h1.2.2.1 e.symm), h.hm.only k (fun e => h1.2.2.2 e.symm), h.ls, h.lm, h.far, h.ne, h.x.then_only k (fun q e => by rw [e]; exact hb)⟩
theorem GM.setS (h : GM w wr b8 b9 gs gm N S M) {S' : List Int} (hl : S'.length = S.length) (hb : Blk w1 gs (iA S') 3) (k : Only (fun q => q = gs) wr w1) : GM w w1 b8 b9 gs gm N S' M :=
  ⟨h.h8.only k (fun e => h.ne.2.1 e.symm), h.h9.only k (fun e => h.ne.2.2.1 e.symm), hb, h.hm.only k (fun e => h.ne.1 e.symm), hl.trans h.ls, h.lm, h.far, h.ne, h.x.then_only k (fun q e => by rw [e]; exact h.far.1)⟩
theorem GM.setM (h : GM w wr b8 b9 gs gm N S M) {M' : List Int} (hl : M'.length = M.length) (hb : Blk w1 gm (iA M') 3) (k : Only (fun q => q = gm) wr w1) : GM w w1 b8 b9 gs gm N S M' :=
  ⟨h.h8.only k (fun e => h.ne.2.2.2.1 e.symm), h.h9.only k (fun e => h.ne.2.2.2.2.1 e.symm), h.hs.only k h.ne.1, hb, h.ls, hl.trans h.lm, h.far, h.ne, h.x.then_only k (fun q e => by rw [e]; exact h.far.2.1)⟩
theorem GM.cS (h : GM w wr b8 b9 gs gm N S M) {i : Nat} (hi : i < N) : wr.cell? ⟨gs, i, none⟩ = some (.int .i64 (gI S i)) := h.hs.int (by rw [h.ls]; exact hi)
theorem GM.cM (h : GM w wr b8 b9 gs gm N S M) {i : Nat} (hi : i < N) : wr.cell? ⟨gm, i, none⟩ = some (.int .i64 (gI M i)) := h.hm.int (by rw [h.lm]; exact hi)
end
/-- The number that a pointer's cell holds. -/
def cellNat (v : Value) (W : World) : Nat := match v with
  | .pointer (some a) => match W.cell? a with
    | some (.int _ n) => n.toNat
    | _ => 0
  | _ => 0
theorem cellNat_blk {W : World} {b : Nat} {n : Int} {t : TypeId} (h : Blk W b #[.int .i64 n] t) : cellNat (.pointer (some ⟨b, 0, none⟩)) W = n.toNat := by
  have := h.cell 0
  unfold cellNat
  dsimp only
  rw [this]
  rfl
theorem shl_i64 (i : Nat) (h : i ≤ 10) : wrap64 ((2:Int) ^ i) = ((2 ^ i : Nat) : Int) := by
  have : ∀ n : Fin 11, wrap64 ((2:Int) ^ n.1) = ((2 ^ n.1 : Nat) : Int) := by decide +kernel
  exact this ⟨i, by omega⟩
example : groupsP [-5, 3, 2, -4, 4] = some [0, 0, 0, 1, 1] := by decide +kernel
end Go.Proofs.Ytekplfbfkfiabaa
