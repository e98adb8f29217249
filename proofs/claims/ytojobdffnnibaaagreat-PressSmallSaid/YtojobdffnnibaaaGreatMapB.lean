/- A map[int]bool of the call's own, whose elements are all true: it is told by the list of its keys. -/
import Derived.Test.YtojobdffnnibaaaGreatKit
import Derived.Maps.RangeWalk
import Derived.Maps.OwnSet
namespace Go.Proofs.YtojobdffnnibaaaGreat
open Go.RowKit
set_option linter.unusedVariables false
theorem lit_wf {n : Int} (h : I64 n) : (Lit.int .i64 n).wf = true := by unfold I64 at h; simp [Lit.wf, IntKind.min, IntKind.max, IntKind.signed, IntKind.bits]; omega
abbrev keyL (ks : List Int) : List Lit := ks.map (Lit.int .i64)
theorem keyL_key (ks : List Int) : ∀ x ∈ keyL ks, WideAt.IsKeyLit x := by
 intro x hx; obtain ⟨n, _, rfl⟩ := List.mem_map.1 hx
 trivial
theorem sameKey_int (a b : Int) : (Lit.int .i64 a).sameKey (.int .i64 b) = (a == b) := by
 by_cases h : a = b
 · subst h; simp [Lit.sameKey]
 · rw [Maps.sameKey_ne (by simpa using h)]; simp [h]
abbrev setB (ks : List Int) : DataW Unit := Maps.setOf (.lit (.bool true)) (keyL ks)
theorem has_setB (ks : List Int) (x : Int) : Maps.has (setB ks) (.int .i64 x) = decide (x ∈ ks) := by
 rw [Maps.has_setOf _ _ _ (keyL_key ks), List.any_map]; rw [Bool.eq_iff_iff]; simp [sameKey_int]
theorem setB_snoc (ks : List Int) (x : Int) : setB (ks ++ [x]) = (setB ks).put (.int .i64 x) (.lit (.bool true)) := by
 unfold setB; rw [show keyL (ks ++ [x]) = keyL ks ++ [.int .i64 x] by simp, Maps.setOf_snoc]
theorem at_fold (z : DataW Unit) (x : Int) : ∀ (ls : List Int) (m : DataW Unit), Maps.IsMap m → (m.atKey (.int .i64 x) z = .lit (.bool true) ∨ x ∈ ls) → ((keyL ls).foldl (fun m x => m.put x (.lit (.bool true))) m).atKey (.int .i64 x) z = .lit (.bool true) := by
 intro ls
 induction ls with
 | nil => intro m hm h; exact h.resolve_right (by simp)
 | cons y ls ih =>
   intro m hm h; refine ih (m.put (.int .i64 y) (.lit (.bool true))) (hm.put _ _) ?_
   by_cases hxy : x = y
   · subst hxy
     exact .inl (Maps.atKey_put_same hm (show WideAt.IsKeyLit (Lit.int .i64 x) from trivial) _ _)
   {
   rw [Maps.atKey_put_other (by simpa using hxy)]
   rcases h with h | h
   · exact .inl h
   · exact .inr ((List.mem_cons.1 h).resolve_left hxy)
   }
theorem at_setB {ks : List Int} {x : Int} (h : x ∈ ks) (z : DataW Unit) : (setB ks).atKey (.int .i64 x) z = .lit (.bool true) :=
 at_fold z x ks (.map []) Maps.isMap_empty (.inr h)
/-- Block b is a map of at most n entries, with the keys ks. -/
def MapB (w : World) (b n : Nat) (ks : List Int) : Prop :=
 (∀ k ∈ ks, I64 k) ∧ w.ownsMap Tryz.prog 3 (plainElem Tryz.prog 4) b n (setB ks)
theorem MapB.lt {w : World} {b n : Nat} {ks : List Int} (h : MapB w b n ks) : b < w.heap.size := World.ownsMap.lt h.2
theorem grown_ext {w w' : World} (h : Ext w w') (row : Option Nat) : w.grownBy w' row := ⟨h.os, h.tape, h.output, h.size, fun k hk _ => h.block k hk⟩
theorem grown_only {w w' : World} {r : Nat} (h : w.grownBy w' (some r)) : Only (fun k => k = r) w w' :=
 ⟨h.os, h.tape, h.output, h.size, fun k hk hs => h.block k hk (fun e => by cases e; exact hs rfl)⟩
theorem MapB.ext {w w' : World} {b n : Nat} {ks : List Int} (h : MapB w b n ks) (k : Ext w w') : MapB w' b n ks := ⟨h.1, h.2.kept (grown_ext k none) (by simp)⟩
theorem uInt : Tryz.prog.underlying 3 = some (.int .i64) := Tryz.underlying3
theorem uBool : Tryz.prog.underlying 4 = some .bool := by kernel_rfl
theorem uMapB : Tryz.prog.underlying 111 = some (.map 3 4) := by kernel_rfl
theorem zBool (w : World) : (zeroValue 4).run Tryz.prog w = .ok (.bool false) w := by kernel_rfl
theorem kInt : Maps.Keyed Tryz.prog 3 := Maps.int_keyed uInt
theorem MapB.look {w : World} {b n : Nat} {ks : List Int} (h : MapB w b n ks) {x : Int} (hx : x ∈ ks) : (Instr.lookup 111 (.map (some b)) (.int .i64 x) false).run Tryz.prog w = .ok (.bool true) w := by
 obtain ⟨v, ps, hrun, hR⟩ := h.2.lookup kInt uMapB (zBool w) (plainElem_bool uBool false) (Maps.keyOf_int_mk uInt (lit_wf (h.1 x hx))); rw [at_setB hx] at hR
 have hv : v = .bool true := by
  have := hR
  cases v <;> simp [plainElem] at this
  all_goals first | (rw [this]) | (simp_all)
 rw [hrun, hv]
section
variable {w : World} {ops : Array Oper} {rest : List Oper} {o : Oper} {a : Act} {Q : Exit → Act → World → Prop}
theorem wpList_makeMapK (hgd : o.guard = none) (ho : o.op = .makeMap 111 none)
 (h : ∀ b w1, MapB w1 b 0 [] → Ext w w1 → w.heap.size ≤ b → wpList Tryz.prog ops Q rest (a.put o.dst (.map (some b))) w1) : wpList Tryz.prog ops Q (o :: rest) a w := by
 refine wpList_plain hgd fun K hK => ?_
 have hr : (execOp a.eval o).run Tryz.prog w = .ok (.value (.map (some w.heap.size))) (w.alloc (.map #[] 0)) := by
  unfold execOp; rw [ho]; simp only [Sem.run_bind, Option.map_none, run_makeMap, Result.andThen]; rfl
 unfold Oper.wp; rw [hr]; exact hK _ _ (h _ _ ⟨fun k hk => (by cases hk), World.ownsMap_made _ _ _ _⟩ ((Below.refl _ _).alloc (Nat.le_refl _) _) (Nat.le_refl _))
theorem wpList_putB (hgd : o.guard = none) {m x v : Operand} (ho : o.op = .mapUpdate 111 m x v) {b n : Nat} {ks : List Int} (hm : MapB w b n ks) (hn : n < 1000000) {k : Int}
 (h1 : a.eval m = .map (some b)) (h2 : a.eval x = .int .i64 k) (h3 : a.eval v = .bool true) (hk : I64 k)
 (h : ∀ w1, MapB w1 b (n + 1) (ks ++ [k]) → Only (fun k => k = b) w w1 → wpList Tryz.prog ops Q rest (a.put o.dst undef) w1) : wpList Tryz.prog ops Q (o :: rest) a w := by
 refine wpList_mapUpdate_own w hgd m x v _ ho 3 4 kInt uMapB (plainElem Tryz.prog 4) b n (setB ks) h1 hm.2 (by unfold maxLen; omega) (.int .i64 k) (.bool true) _ h2 h3 (Maps.keyOf_int_mk uInt (lit_wf hk))
  (.lit (.bool true)) [] (plainElem_bool uBool true) ?_
 intro w' hown hg; refine h w' ⟨fun y hy => ?_, ?_⟩ (grown_only hg)
 {
 rcases List.mem_append.1 hy with hy | hy
 · exact hm.1 y hy
 · rw [List.mem_singleton.1 hy]; exact hk
 }
 · rw [setB_snoc]; exact hown
/-- A range over the map stands in block r: cnt entries are still to come, the keys 'done' have come. -/
def RangeB (w : World) (b r n : Nat) (ks done : List Int) (cnt : Nat) : Prop :=
 (∀ k ∈ ks, I64 k) ∧ ∃ left : Lit → Bool, w.ranges Tryz.prog 3 (plainElem Tryz.prog 4) b r n (setB ks) left cnt ∧ ∀ x, left (.int .i64 x) = (decide (x ∈ ks) && !decide (x ∈ done))
theorem RangeB.map {w : World} {b r n : Nat} {ks done : List Int} {cnt : Nat} (h : RangeB w b r n ks done cnt) : MapB w b n ks := by
 obtain ⟨h1, left, h2, _⟩ := h; exact ⟨h1, h2.owns⟩
theorem RangeB.lt {w : World} {b r n : Nat} {ks done : List Int} {cnt : Nat} (h : RangeB w b r n ks done cnt) : r < w.heap.size := by
 obtain ⟨h1, left, h2, _⟩ := h; exact h2.lt
theorem RangeB.ext {w w' : World} {b r n : Nat} {ks done : List Int} {cnt : Nat} (h : RangeB w b r n ks done cnt) (k : Ext w w') : RangeB w' b r n ks done cnt := by
 obtain ⟨h1, left, h2, h3⟩ := h; exact ⟨h1, left, h2.kept (grown_ext k none) (by simp) (by simp), h3⟩
theorem RangeB.left {w : World} {b r n : Nat} {ks done : List Int} {cnt : Nat} (h : RangeB w b r n ks done cnt) : w.rangeLeft b r = cnt := by
 obtain ⟨h1, left, h2, h3⟩ := h; exact h2.left_eq
theorem wpList_rangeB (hgd : o.guard = none) {m : Operand} (ho : o.op = .range 111 m) {b n : Nat} {ks : List Int} (hm : MapB w b n ks) (h1 : a.eval m = .map (some b))
 (h : ∀ r w1 cnt, RangeB w1 b r n ks [] cnt → cnt ≤ n → Ext w w1 → w.heap.size ≤ r → wpList Tryz.prog ops Q rest (a.put o.dst (.pointer (some ⟨r, 0, none⟩))) w1) : wpList Tryz.prog ops Q (o :: rest) a w := by
 refine wpList_range_own w hgd m _ ho 3 4 kInt uMapB (plainElem Tryz.prog 4) b n (setB ks) h1 hm.2 ?_; intro w' hr hg hs; refine h _ w' _ ⟨hm.1, _, hr, fun x => ?_⟩ (World.ownsMap.size_le hm.2) ⟨hg.os, hg.tape, hg.output, hg.size, fun k hk => hg.block k hk (by simp)⟩ (Nat.le_refl _); rw [has_setB]; simp
theorem wpList_nextB (hgd : o.guard = none) {it : Operand} (ho : o.op = .next it false) {b r n : Nat} {ks done : List Int} {cnt : Nat} (hr : RangeB w b r n ks done cnt) (h1 : a.eval it = .pointer (some ⟨r, 0, none⟩))
 (hDone : (∀ x ∈ ks, x ∈ done) → wpList Tryz.prog ops Q rest (a.put o.dst (.tuple #[.bool false])) w)
 (hMore : ∀ x w' cnt', x ∈ ks → x ∉ done → RangeB w' b r n ks (x :: done) cnt' → cnt' < cnt → Only (fun k => k = r) w w' → w'.heap.size = w.heap.size →
   (Instr.entry (.pointer (some ⟨r, 0, none⟩))).run Tryz.prog w' = .ok (.tuple #[.int .i64 x, .bool true]) w' → wpList Tryz.prog ops Q rest (a.put o.dst (.tuple #[.bool true, .int .i64 x, .bool true])) w') : wpList Tryz.prog ops Q (o :: rest) a w := by
 obtain ⟨hk, left, hrg, hleft⟩ := hr
 refine wpList_next_ranges w hgd it ho 3 kInt (plainElem Tryz.prog 4) (Value.int .i64) Value.bool (fun key kl hkey => by obtain ⟨x, rfl, _⟩ := Maps.keyOf_int_inv uInt hkey; exact ⟨x, rfl⟩)
  (fun v y hv => by cases v <;> simp [plainElem] at hv; exact ⟨_, rfl⟩) b r n (setB ks) left cnt h1 hrg (fun _ hl => hDone fun x hx => ?_) ?_
 {
 have := hl (.int .i64 x); rw [hleft x] at this
 simpa [hx] using this
 }
 {
 intro x c kl y w' cnt' hkey hlk hv hat hrg' hlt hgr hsz hen; obtain ⟨x', ex, rfl, hwx⟩ := Maps.keyOf_int_inv uInt hkey
 cases ex
 rw [hleft x] at hlk; simp only [Bool.and_eq_true, decide_eq_true_eq, Bool.not_eq_true', decide_eq_false_iff_not] at hlk
 have hc : c = true := by
  have h2 := hat (.lit (.bool true)); rw [at_setB hlk.1] at h2; rw [plainElem_bool uBool c] at hv
  cases hv
  simpa using h2.symm
 subst hc; refine hMore x w' cnt' hlk.1 hlk.2 ⟨hk, _, hrg', fun z => ?_⟩ hlt (grown_only hgr) hsz hen; rw [hleft z, sameKey_int]
 by_cases hzx : z = x
 · simp [hzx]
 · simp [hzx]
 }
end
end Go.Proofs.YtojobdffnnibaaaGreat