/- Shares in plain words. -/
import Derived.Test.YtekplfbfkfiabaaBkShr0
namespace Go.Proofs.Ytekplfbfkfiabaa
open Go.RowKit
set_option linter.unusedVariables false
set_option linter.unusedSimpArgs false

def isum : List Int → Int
  | [] => 0
  | x :: xs => x + isum xs
theorem isum_snoc (xs : List Int) (x : Int) : isum (xs ++ [x]) = isum xs + x := by
  induction xs with
  | nil => simp [isum]
  | cons y ys ih => simp only [List.cons_append, isum, ih]; omega
theorem isum_take (xs : List Int) (k : Nat) (hk : k < xs.length) : isum (xs.take (k + 1)) = isum (xs.take k) + xs[k] := by
  rw [List.take_succ_eq_append_getElem hk, isum_snoc]
def inW (u : Int) : Bool := nIn u 0 1000000
def sumW (l : List Int) : Int := isum (l.map fun u => if inW u then u else 0)
theorem sumW_take (xs : List Int) (k : Nat) (hk : k < xs.length) : sumW (xs.take (k + 1)) = sumW (xs.take k) + if inW xs[k] then xs[k] else 0 := by
  unfold sumW
  rw [List.take_succ_eq_append_getElem hk, List.map_append, List.map_singleton, isum_snoc]
theorem sumW_range (xs : List Int) : 0 ≤ sumW xs ∧ sumW xs ≤ xs.length * 1000000 := by
  unfold sumW
  induction xs with
  | nil => simp [isum]
  | cons x xs ih =>
    simp only [List.map_cons, isum, List.length_cons]
    have h : 0 ≤ (if inW x then x else 0) ∧ (if inW x then x else 0) ≤ 1000000 := by
      split
      · rename_i h; exact (nIn_iff x 0 1000000).1 h
      · omega
    push_cast
    omega
theorem sumW_all (xs : List Int) (h : xs.any (fun u => !inW u) = false) : sumW xs = isum xs := by
  unfold sumW
  induction xs with
  | nil => rfl
  | cons x xs ih =>
    rw [List.any_cons, Bool.or_eq_false_iff] at h
    simp only [List.map_cons, isum]
    rw [ih h.2, if_pos (by simpa using h.1)]
def badW (xs : List Int) : Bool := xs.any fun u => !nIn u 0 1000000
def shareE (t : Int) (ws : List Int) : Int :=
  if ¬ (1 ≤ ws.length ∧ ws.length ≤ 100) then 2
  else if ¬ (0 ≤ t ∧ t ≤ 1000000000000) then 6
  else if badW ws = true then 6
  else if sumW ws = 0 then 4
  else 0
theorem shareE_ways (t : Int) (ws : List Int) :
    (¬ (1 ≤ ws.length ∧ ws.length ≤ 100) ∧ shareE t ws = 2) ∨ ((1 ≤ ws.length ∧ ws.length ≤ 100) ∧
    ((¬ (0 ≤ t ∧ t ≤ 1000000000000) ∧ shareE t ws = 6) ∨ ((0 ≤ t ∧ t ≤ 1000000000000) ∧
    ((badW ws = true ∧ shareE t ws = 6) ∨ (badW ws = false ∧
    ((sumW ws = 0 ∧ shareE t ws = 4) ∨ (sumW ws ≠ 0 ∧ shareE t ws = 0))))))) := by
  unfold shareE
  by_cases q1 : 1 ≤ ws.length ∧ ws.length ≤ 100
  · refine .inr ⟨q1, ?_⟩
    rw [if_neg (fun h => h q1)]
    by_cases q2 : 0 ≤ t ∧ t ≤ 1000000000000
    · refine .inr ⟨q2, ?_⟩
      rw [if_neg (fun h => h q2)]
      rcases q3 : badW ws with _ | _
      · refine .inr ⟨rfl, ?_⟩
        rw [if_neg (by decide)]
        by_cases q4 : sumW ws = 0
        · exact .inl ⟨q4, if_pos q4⟩
        · exact .inr ⟨q4, if_neg q4⟩
      · exact .inl ⟨rfl, if_pos rfl⟩
    · exact .inl ⟨q2, if_pos q2⟩
  · exact .inl ⟨q1, if_pos q1⟩
def baseS (t : Int) (ws : List Int) (S : Int) : List Int := ws.map fun u => t * u / S
theorem baseS_len (t : Int) (ws : List Int) (S : Int) : (baseS t ws S).length = ws.length := by simp [baseS]
def leftS (t : Int) (ws : List Int) (S : Int) : Int := t - isum (baseS t ws S)
theorem base_sum (t S : Int) (hS : 1 ≤ S) (ht : 0 ≤ t) : ∀ ws : List Int, isum (baseS t ws S) * S ≤ t * isum ws ∧ t * isum ws ≤ isum (baseS t ws S) * S + ws.length * (S - 1)
  | [] => by simp [baseS, isum]
  | u :: us => by
    obtain ⟨h1, h2⟩ := base_sum t S hS ht us
    have h3 : isum (baseS t (u :: us) S) = t * u / S + isum (baseS t us S) := rfl
    have h4 : isum (u :: us) = u + isum us := rfl
    have h5 := Int.emod_add_mul_ediv (t * u) S
    have h6 := Int.emod_nonneg (t * u) (show S ≠ 0 by omega)
    have h7 := Int.emod_lt_of_pos (t * u) (show 0 < S by omega)
    rw [h3, h4, Int.add_mul, Int.mul_add, List.length_cons]
    have h8 : t * u / S * S = S * (t * u / S) := Int.mul_comm _ _
    have h9 : ((us.length + 1 : Nat) : Int) * (S - 1) = us.length * (S - 1) + (S - 1) := by push_cast; rw [Int.add_mul, Int.one_mul]
    rw [h9]
    constructor <;> omega
theorem left_range (t : Int) (ws : List Int) (hS : 1 ≤ isum ws) (ht : 0 ≤ t) (hn : 1 ≤ ws.length) : 0 ≤ leftS t ws (isum ws) ∧ leftS t ws (isum ws) < ws.length := by
  obtain ⟨h1, h2⟩ := base_sum t (isum ws) hS ht ws
  unfold leftS
  constructor
  · have := Int.le_of_mul_le_mul_right h1 (by omega)
    omega
  · have h3 : t * isum ws < (isum (baseS t ws (isum ws)) + ws.length) * isum ws := by
      rw [Int.add_mul]
      have h4 : (ws.length : Int) * (isum ws - 1) = ws.length * isum ws - ws.length := by rw [Int.mul_sub, Int.mul_one]
      omega
    have := Int.lt_of_mul_lt_mul_right h3 (by omega)
    omega
def ixs (n : Nat) : List Int := (List.range n).map fun i : Nat => (i : Int)
theorem ixs_len (n : Nat) : (ixs n).length = n := by simp [ixs]
def bump (o : List Int) (i : Int) : List Int := o.set i.toNat (gI o i.toNat + 1)
def rankS (t : Int) (ws : List Int) (S : Int) : List Int := insN (cmpS t ws S) 0 (ws.length - 1) (ixs ws.length)
def outS (t : Int) (ws : List Int) (S : Int) : List Int := ((rankS t ws S).take (leftS t ws S).toNat).foldl bump (baseS t ws S)
def shareV (t : Int) (ws : List Int) : List Int := if shareE t ws = 0 then outS t ws (sumW ws) else []
theorem bump_len (o : List Int) (i : Int) : (bump o i).length = o.length := by simp [bump]
theorem bumps_len (l : List Int) : ∀ o : List Int, (l.foldl bump o).length = o.length := by
  induction l with
  | nil => intro o; rfl
  | cons x xs ih => intro o; rw [List.foldl_cons, ih, bump_len]
theorem insN_all {P : Int → Prop} (cmp : Int → Int → Int) (a : Nat) : ∀ (c : Nat) (xs : List Int), a + c < xs.length ∨ c = 0 → (∀ x ∈ xs, P x) → ∀ x ∈ insN cmp a c xs, P x
  | 0, _, _, h => h
  | c + 1, xs, hl, h => by
    unfold insN
    exact insJ_all cmp a _ _ (by rw [insN_len]; omega) (insN_all cmp a c xs (by omega) h)
theorem rank_range (t : Int) (ws : List Int) (S : Int) : ∀ i ∈ rankS t ws S, 0 ≤ i ∧ i < ws.length := by
  unfold rankS
  refine insN_all (P := fun i => 0 ≤ i ∧ i < ws.length) _ 0 _ _ (by rw [ixs_len]; omega) (fun x hx => ?_)
  unfold ixs at hx
  obtain ⟨i, hi, rfl⟩ := List.mem_map.1 hx
  rw [List.mem_range] at hi
  omega
theorem rankS_len (t : Int) (ws : List Int) (S : Int) : (rankS t ws S).length = ws.length := by unfold rankS; rw [insN_len, ixs_len]
theorem isum_nonneg (xs : List Int) (h : ∀ x ∈ xs, 0 ≤ x) : 0 ≤ isum xs := by
  induction xs with
  | nil => simp [isum]
  | cons x xs ih =>
    have h1 := h x (by simp)
    have h2 := ih (fun y hy => h y (by simp [hy]))
    simp only [isum]; omega
theorem isum_append (xs ys : List Int) : isum (xs ++ ys) = isum xs + isum ys := by
  induction xs with
  | nil => simp [isum]
  | cons x xs ih => simp only [List.cons_append, isum, ih]; omega
theorem isum_take_le (xs : List Int) (k : Nat) (h : ∀ x ∈ xs, 0 ≤ x) : isum (xs.take k) ≤ isum xs := by
  have h1 := isum_append (xs.take k) (xs.drop k)
  rw [List.take_append_drop] at h1
  have h2 := isum_nonneg (xs.drop k) (fun x hx => h x (List.mem_of_mem_drop hx))
  omega
theorem left_take (t S : Int) (ws : List Int) (k : Nat) (hS : S = isum ws) (h1 : 1 ≤ S) (ht : 0 ≤ t) (hw : ∀ u ∈ ws, 0 ≤ u) : 0 ≤ t - isum ((baseS t ws S).take k) ∧ t - isum ((baseS t ws S).take k) ≤ t := by
  have e : (baseS t ws S).take k = baseS t (ws.take k) S := by unfold baseS; rw [List.map_take]
  rw [e]
  obtain ⟨h2, _⟩ := base_sum t S h1 ht (ws.take k)
  have h3 := isum_take_le ws k hw
  have h4 : isum (baseS t (ws.take k) S) * S ≤ t * S := Int.le_trans h2 (by rw [hS]; exact Int.mul_le_mul_of_nonneg_left h3 ht)
  have h5 := Int.le_of_mul_le_mul_right h4 (by omega)
  have h6 : 0 ≤ isum (baseS t (ws.take k) S) := isum_nonneg _ fun x hx => by
    unfold baseS at hx
    obtain ⟨u, hu, rfl⟩ := List.mem_map.1 hx
    exact Int.ediv_nonneg (Int.mul_nonneg ht (hw u (List.mem_of_mem_take hu))) (by omega)
  constructor <;> omega
theorem badW_ok {ws : List Int} (h : badW ws = false) : ∀ u ∈ ws, 0 ≤ u ∧ u ≤ 1000000 := fun u hu => by
  unfold badW at h
  rw [List.any_eq_false] at h
  have h2 := h u hu
  rw [Bool.not_eq_true, Bool.not_eq_false'] at h2
  exact (nIn_iff _ _ _).1 h2
theorem Blk.ints {w : World} {g : Nat} {xs : List Int} {t : TypeId} {n c : Nat} (h : Blk w g (iA xs) t) (hn : xs.length = n) (hl : n ≤ 1000000) : Ints w (.slice (some ⟨g, 0, none⟩) n c) xs := by
  refine ⟨by rw [List.length_map]; omega, some ⟨g, 0, none⟩, c, by rw [List.length_map, hn], fun e => (by cases e), fun _ => ⟨g, 0, rfl, fun i v hv => ?_⟩⟩
  rw [Nat.zero_add, h.cell]
  simpa [iA, iV] using hv
theorem bump_all {M : Int} {o : List Int} {i : Int} (h : ∀ x ∈ o, 0 ≤ x ∧ x ≤ M) (hM : 0 ≤ M) : ∀ x ∈ bump o i, 0 ≤ x ∧ x ≤ M + 1 := by
  intro x hx
  unfold bump at hx
  rcases List.mem_or_eq_of_mem_set hx with hx | rfl
  · have := h x hx; omega
  · unfold gI
    rw [List.getD_eq_getElem?_getD]
    cases hg : o[i.toNat]? with
    | none => simp; omega
    | some y => have := h y (List.mem_of_getElem? hg); simp; omega
theorem foldl_take (l : List Int) (o : List Int) (k : Nat) (hk : k < l.length) : (l.take (k + 1)).foldl bump o = bump ((l.take k).foldl bump o) l[k] := by
  rw [List.take_succ_eq_append_getElem hk, List.foldl_append]; rfl
theorem base_all (t S : Int) (ws : List Int) (h1 : 1 ≤ S) (ht : 0 ≤ t ∧ t ≤ 1000000000000) (hw : ∀ u ∈ ws, 0 ≤ u ∧ u ≤ 1000000) : ∀ x ∈ baseS t ws S, 0 ≤ x ∧ x ≤ 1000000000000000000 := by
  intro x hx
  unfold baseS at hx
  obtain ⟨u, hu, rfl⟩ := List.mem_map.1 hx
  have h2 := hw u hu
  have h3 : 0 ≤ t * u := Int.mul_nonneg ht.1 h2.1
  have h4 : t * u ≤ 1000000000000 * 1000000 := Int.mul_le_mul ht.2 h2.2 h2.1 (by omega)
  have h5 := Int.ediv_le_self S h3
  exact ⟨Int.ediv_nonneg h3 (by omega), by omega⟩
def fillK (l : List Int) (k : Nat) : List Int := l.take k ++ List.replicate (l.length - k) 0
theorem fillK_len (l : List Int) (k : Nat) (hk : k ≤ l.length) : (fillK l k).length = l.length := by simp [fillK]; omega
theorem fillK_zero (l : List Int) : fillK l 0 = List.replicate l.length 0 := by simp [fillK]
theorem fillK_all (l : List Int) : fillK l l.length = l := by simp [fillK]
theorem fillK_set (l : List Int) (k : Nat) (hk : k < l.length) : (fillK l k).set k l[k] = fillK l (k + 1) := by
  unfold fillK
  rw [List.set_append_right _ _ (by rw [List.length_take]; exact Nat.min_le_left _ _), List.length_take, Nat.min_eq_left (Nat.le_of_lt hk), Nat.sub_self, List.take_succ_eq_append_getElem hk, List.append_assoc]
  congr 1
  have e : l.length - k = (l.length - (k + 1)) + 1 := by omega
  rw [e, List.replicate_succ]
  rfl
theorem gI_set (l : List Int) (k : Nat) (x : Int) (hk : k < l.length) : gI (l.set k x) k = x := by
  unfold gI; rw [List.getD_eq_getElem?_getD, List.getElem?_set_self hk]; rfl
section
variable {P : Program} {w : World} {ops : Array Oper} {o : Oper} {a : Act} {Q : Exit → Act → World → Prop} {K : Act → World → Prop} {E : Prop}
/-- make of numbers, in a region that draws. -/
theorem step_makeI (hT : SliceT P 22 3 (.int .i64 0) 1 8) (hgd : o.guard = none) {x y : Operand} (ho : o.op = .makeSlice 22 x y) {n : Nat}
    (hx : a.eval x = .int .i64 n) (hy : a.eval y = .int .i64 n) (hN : n ≤ 1000000) (hn : 1 ≤ n)
    (h : ∀ b w1, Blk w1 b (iA (List.replicate n 0)) 3 → Ext w w1 → w.heap.size ≤ b → K (a.put o.dst (.slice (some ⟨b, 0, none⟩) n n)) w1) :
    if Region.wanted o (yielded ops a.tmps) = true then Oper.wp P o a w K Q else E := by
  have hw : Region.wanted o (yielded ops a.tmps) = true := by simp [Region.wanted, hgd]
  rw [if_pos hw]
  obtain ⟨i, hi, hp⟩ := Option.map_eq_some_iff.1 hT.info
  simp only [Prod.mk.injEq] at hp
  obtain ⟨hz, hsz, hby⟩ := hp
  have hm : n ≤ maxLen := by unfold maxLen; omega
  obtain ⟨w', hrun, r1, r2⟩ := run_make_full (P := P) w w.heap.size 22 3 i (.int .i64 0) 1 hT.ht hi hz hsz .i64 .i64 n (by rw [hby]; omega) hm (Nat.le_refl _)
  unfold Oper.wp
  simp [execOp, ho, hx, hy, hrun, Result.andThen]
  refine h _ w' ?_ (Ext.only (only_grown (v := .slice none 0 0) r2) (fun b hb => by cases hb)) (Nat.le_refl _)
  rcases r1.2 with ⟨hv, e0⟩ | ⟨g, cap, cur, hv, hg, hh, h1, h2, h3, h4⟩
  · omega
  · injection hv with e1 e2 e3
    injection e1 with e1
    injection e1 with e4
    subst e4
    have hcur : cur = iA (List.replicate n 0) := by
      have hmc : (madeCells (Value.int IntKind.i64 0).cells (n * 1)).toList = iV (List.replicate n 0) := by
        have : (Value.int IntKind.i64 0).cells = #[Value.int IntKind.i64 0] := rfl
        rw [this, Nat.mul_one, made_repl]
        simp [iV]
      rw [hmc] at h4
      have hsz2 : cur.size = n := by omega
      rw [Nat.mul_one, List.take_of_length_le (by simp [hsz2])] at h4
      have : cur = cur.toList.toArray := by simp
      rw [this, h4]; rfl
    rw [hcur] at hh
    exact hh
end
end Go.Proofs.Ytekplfbfkfiabaa
