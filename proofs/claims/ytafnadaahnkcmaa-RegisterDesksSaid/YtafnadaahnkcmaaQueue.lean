/- The queue of a loop of control: newQueue, put; start, decide. -/
import Derived.Test.YtafnadaahnkcmaaSettle
namespace Go.Proofs.Ytafnadaahnkcmaa
open Go.RowKit
set_option linter.unusedVariables false

/-- The slice at block g from o on, of capacity c, reads as xs; its row may be written. -/
def RowAt (w : World) (g o c : Nat) (xs : List Int) : Prop :=
  ∃ cur : Array Value, w.heap[g]? = some (.cells cur 3 (0, 0)) ∧ xs.length ≤ c ∧ o + c ≤ cur.size ∧ ∀ i (h : i < xs.length), cur[o + i]? = some (.int .i64 xs[i])

theorem RowAt.lt {w : World} {g o c : Nat} {xs : List Int} (h : RowAt w g o c xs) : g < w.heap.size := by
  obtain ⟨cur, h1, _⟩ := h; exact (Array.getElem?_eq_some_iff.1 h1).1
theorem RowAt.cell {w : World} {g o c : Nat} {xs : List Int} (h : RowAt w g o c xs) (i : Nat) (hi : i < xs.length) : w.cell? ⟨g, o + i, none⟩ = some (.int .i64 xs[i]) := by
  obtain ⟨cur, h1, h2, h3, h4⟩ := h
  rw [cell_of_row w g (o + i) cur 3 (0, 0) h1]; exact h4 i hi
theorem RowAt.keep {w w' : World} {g o c : Nat} {xs : List Int} (h : RowAt w g o c xs) (hb : w'.heap[g]? = w.heap[g]?) : RowAt w' g o c xs := by
  obtain ⟨cur, h1, r⟩ := h; exact ⟨cur, hb.trans h1, r⟩
theorem RowAt.only {S : Nat → Prop} {w w' : World} {g o c : Nat} {xs : List Int} (h : RowAt w g o c xs) (ho : Only S w w') (hs : ¬ S g) : RowAt w' g o c xs :=
  h.keep (ho.block g h.lt hs)
theorem RowAt.ext {w w' : World} {g o c : Nat} {xs : List Int} (h : RowAt w g o c xs) (ho : Ext w w') : RowAt w' g o c xs :=
  h.keep (ho.block g h.lt)
theorem RowAt.tail {w : World} {g o c : Nat} {x : Int} {xs : List Int} (h : RowAt w g o c (x :: xs)) : RowAt w g (if c = 1 then o else o + 1) (c - 1) xs := by
  obtain ⟨cur, h1, h2, h3, h4⟩ := h
  simp only [List.length_cons] at h2 h4
  by_cases hc : c = 1
  · have : xs = [] := List.eq_nil_of_length_eq_zero (by omega)
    subst this
    exact ⟨cur, h1, by simp, by simp [hc]; omega, fun i hi => by simp at hi⟩
  · simp only [if_neg hc]
    refine ⟨cur, h1, by omega, by omega, fun i hi => ?_⟩
    have := h4 (i + 1) (by omega)
    simpa [Nat.add_assoc, Nat.add_comm 1 i] using this

/-- 'append(q.l, x)'. -/
theorem wpList_app_row {w : World} {ops : Array Oper} {rest : List Oper} {o : Oper} {a : Act} {Q : Exit → Act → World → Prop}
    (hgd : o.guard = none) {s x : Operand} (ho : o.op = .call { callee := .builtin .append, args := #[s, x], argTypes := #[22, 22] })
    {g off c n : Nat} {xs : List Int} (hs : a.eval s = .slice (some ⟨g, off, none⟩) n c) (hn : n = xs.length) (hrow : RowAt w g off c xs)
    {y : Int} {b : Nat} (hx : a.eval x = .slice (some ⟨b, 0, none⟩) 1 1) (hy : w.cell? ⟨b, 0, none⟩ = some (.int .i64 y)) (hlen : xs.length ≤ 1000000)
    (h : ∀ g' off' c' w', RowAt w' g' off' c' (xs ++ [y]) → Only (fun k => k = g) w w' → (g' = g ∨ w.heap.size ≤ g') → wpList Try.prog ops Q rest (a.put o.dst (.slice (some ⟨g', off', none⟩) (n + 1) c')) w') : wpList Try.prog ops Q (o :: rest) a w := by
  obtain ⟨ht, hinfo, hzs, hpos, hbyt⟩ := tInts
  obtain ⟨i, hi, hp⟩ := Option.map_eq_some_iff.1 hinfo
  simp only [Prod.mk.injEq] at hp
  obtain ⟨hz, hsz, hby⟩ := hp
  subst hn
  have hrow' := hrow
  obtain ⟨cur, h1, h2, h3, h4⟩ := hrow
  refine wpList_append_arg w hgd s x 22 ho 3 i (.int .i64 0) 1 8 ht hi hz hsz hby rfl (by decide) g off xs.length c (xs.map (.int .i64)) hs (by simp) (fun j u hj => ?_)
    ⟨b, 0, none⟩ 1 1 [.int .i64 y] hx rfl (fun j u hj => ?_) (by simp [Value.oneCell']) (fun hr j hj => ?_) (by unfold maxLen; omega) (by omega) (fun hr => ?_) (fun hg v' w' hown hgr => ?_)
  · simp only [List.getElem?_map, Option.map_eq_some_iff] at hj
    obtain ⟨z, hz, rfl⟩ := hj
    obtain ⟨hj, rfl⟩ := List.getElem?_eq_some_iff.1 hz
    exact hrow'.cell j hj
  · have : j = 0 := by
      have := (List.getElem?_eq_some_iff.1 hj).1; simp at this; exact this
    subst this
    simp at hj; subst hj
    exact hy
  · have : j = 0 := by simpa using hj
    subst this
    rw [cell_of_row w g _ cur 3 (0, 0) h1]
    refine ⟨by simp; omega, ?_⟩
    simp [World.frozen?, h1]
  · have hlt : off + xs.length < cur.size := by omega
    have hset : (w.setCells g (off + xs.length * 1) [.int .i64 y]) = w.setCell ⟨g, off + xs.length, none⟩ (.int .i64 y) := by simp [World.setCells]
    rw [hset]
    refine h g off c _ ?_ (Only.set _ _ _ rfl) (Or.inl rfl)
    refine ⟨cur.setIfInBounds (off + xs.length) (.int .i64 y), ?_, by simp; omega, by simp; omega, fun j hj => ?_⟩
    · simp [World.setCell, Array.getElem?_modify, h1]
    · rw [Array.getElem?_setIfInBounds]
      by_cases hje : off + xs.length = off + j
      · have : j = xs.length := by omega
        subst this
        simp [hlt]
      · have hj' : j < xs.length := by simp at hj; omega
        rw [if_neg hje, h4 j hj', List.getElem_append_left hj']
  · obtain ⟨hl, hr⟩ := hown
    rcases hr with ⟨_, h0⟩ | ⟨g', cap, cur', rfl, hb, hg', hc', hm', hs', ht'⟩
    · omega
    · refine h g' 0 cap w' ⟨cur', hg', by simp; omega, by omega, fun j hj => ?_⟩ ⟨hgr.os, hgr.tape, hgr.output, hgr.size, fun k hk _ => hgr.block k hk (by simp)⟩ (Or.inr hb)
      have hj2 : j < xs.length + 1 := by simpa using hj
      have e := congrArg (fun l => l[j]?) ht'
      simp only [List.getElem?_take, Nat.mul_one] at e
      rw [if_pos hj2] at e
      rw [Nat.zero_add, ← Array.getElem?_toList, e]
      rw [← List.map_singleton, ← List.map_append, List.getElem?_map, List.getElem?_eq_getElem hj]; rfl


/-- A queue in block qb, its row in block g, holds xs. -/
def QSt (w : World) (qb g : Nat) (xs : List Int) : Prop :=
  g ≠ qb ∧ ∃ o c, w.heap[qb]? = some (.cells #[.slice (some ⟨g, o, none⟩) xs.length c] 117 (0, 0)) ∧ RowAt w g o c xs
theorem QSt.only {S : Nat → Prop} {w w' : World} {qb g : Nat} {xs : List Int} (h : QSt w qb g xs) (ho : Only S w w') (h1 : ¬ S qb) (h2 : ¬ S g) : QSt w' qb g xs := by
  obtain ⟨hne, o, c, hq, hr⟩ := h
  exact ⟨hne, o, c, ho.heap hq h1, hr.only ho h2⟩
theorem QSt.ext {w w' : World} {qb g : Nat} {xs : List Int} (h : QSt w qb g xs) (ho : Ext w w') : QSt w' qb g xs :=
  h.only (S := fun _ => False) (Only.of_ext ho) id id
theorem QSt.lt {w : World} {qb g : Nat} {xs : List Int} (h : QSt w qb g xs) : qb < w.heap.size ∧ g < w.heap.size := by
  obtain ⟨hne, o, c, hq, hr⟩ := h
  exact ⟨(Array.getElem?_eq_some_iff.1 hq).1, hr.lt⟩

def hdQ (xs : List Int) (x : Int) : Int := (xs ++ [x]).headD 0
def tlQ (xs : List Int) (x : Int) : List Int := (xs ++ [x]).tail
theorem hdtl (xs : List Int) (x : Int) : xs ++ [x] = hdQ xs x :: tlQ xs x := by cases xs <;> simp [hdQ, tlQ]
theorem tlQ_len (xs : List Int) (x : Int) : (tlQ xs x).length = xs.length := by simp [tlQ]

def PutPost (w : World) (qb g : Nat) (xs : List Int) (x : Int) (e : Ending) (w' : World) : Prop :=
  e = .returned (.int .i64 (hdQ xs x)) ∧ ∃ g', QSt w' qb g' (tlQ xs x) ∧ (g' = g ∨ w.heap.size ≤ g') ∧ Only (fun k => k = g ∨ k = qb) w w'

theorem run_tail (g o c n : Nat) (w : World) : (Instr.slice 22 (.slice (some ⟨g, o, none⟩) (n + 1) c) (some (.int .i64 1)) none none).run Try.prog w = .ok (.slice (some ⟨g, if c = 1 then o else o + 1, none⟩) n (c - 1)) w := by
  have h := run_slice_l (P := Try.prog) w 22 (some ⟨g, o, none⟩) (n + 1) c (by simp only [go_sem, Try.underlying22]) .i64 1 (by decide) (by omega)
  have hs : (sizeOf (Try.prog.elem 22)).run Try.prog w = .ok 1 w := by simp only [go_sem, Try.underlying22, Try.sizeOf3]
  rw [hs] at h
  refine h.trans ?_
  show Result.ok (Value.slice (if c = 1 then some ⟨g, o, none⟩ else some ((⟨g, o, none⟩ : Addr).add 1)) n (c - 1)) w = _
  by_cases h : c = 1
  · rw [if_pos h, if_pos h]
  · rw [if_neg h, if_neg h]; rfl

theorem put_any (qb g : Nat) (xs : List Int) (x : Int) (w : World) (hq : QSt w qb g xs) (hlen : xs.length ≤ 1000000) :
    Calls Try.prog 53 #[.pointer (some ⟨qb, 0, none⟩), .int .i64 x] w (PutPost w qb g xs x) := by
  obtain ⟨hne, o, c, hq, hr⟩ := hq
  have hc0 : w.cell? ⟨qb, 0, none⟩ = some (.slice (some ⟨g, o, none⟩) xs.length c) := by simp [World.cell?, hq]
  have hlt : qb < w.heap.size := (Array.getElem?_eq_some_iff.1 hq).1
  have HR := Lib.hid hr
  have HQ := Lib.hid hq
  have HN := Lib.hid hne
  clear hr hq hne
  go_enter Try.func53, Try.ntmps53
  go_wp2_with (
    at_builtin
    refine wpList_app_row (n := xs.length) (b := w.heap.size) (y := x) rfl rfl rfl rfl (HR.out.ext (ext_lit _ _ _)) rfl (by simp) hlen ?_
    rintro g' o' c' w1 h1 h2 h3
    have q1 := h2.heap (k := qb) ((ext_lit w _ _).block qb hlt |>.trans HQ.out) (fun e => HN.out e.symm)
    have cq := cell_of_one q1
    have fq := free_of_one q1
    have hne' : g' ≠ qb := by
      rcases h3 with h3 | h3
      · rw [h3]; exact HN.out
      · simp at h3; omega
    have hne2 : qb ≠ g' := hne'.symm
    have hce : w1.cell? ⟨g', o', none⟩ = some (.int .i64 (hdQ xs x)) := by
      rw [hdtl] at h1; exact h1.cell 0 (by simp)
    have hsl := run_tail g' o' c' xs.length
    have H1 := Lib.hid h1
    have H2 := Lib.hid h2
    have H3 := Lib.hid h3
    have Q1 := Lib.hid q1
    clear h1 h2 h3 q1
    generalize ho2 : (if c' = 1 then o' else o' + 1) = o2 at hsl
    have HO2 := Lib.hid ho2
    clear ho2
  )
  go_ret
  refine ⟨rfl, g', ⟨hne', o2, c' - 1, ?_, ?_⟩, ?_, ?_⟩
  · rw [tlQ_len]; exact one_setCell (one_setCell Q1.out)
  · have h1 := H1.out
    rw [hdtl] at h1
    have ht := h1.tail
    rw [HO2.out] at ht
    exact (ht.only (Only.set (S := fun k => k = qb) _ _ _ rfl) hne').only (Only.set (S := fun k => k = qb) _ _ _ rfl) hne'
  · rcases H3.out with h | h
    · exact Or.inl h
    · simp at h; exact Or.inr (by omega)
  · refine (Only.of_ext (ext_lit _ _ _)).tr (((H2.out).weak (fun k _ hk => Or.inl hk)).tr ((Only.set _ _ _ (Or.inr rfl)).tr (Only.set _ _ _ (Or.inr rfl))))

/-- newQueue(n). -/
def NewPost (w : World) (n : Nat) (e : Ending) (w' : World) : Prop :=
  ∃ qb g, e = .returned (.pointer (some ⟨qb, 0, none⟩)) ∧ QSt w' qb g (List.replicate n 0) ∧ w.heap.size ≤ qb ∧ w.heap.size ≤ g ∧ Ext w w'
theorem newQueue_any (n : Nat) (w : World) (hn : n ≤ 1000000) :
    Calls Try.prog 52 #[.int .i64 n] w (NewPost w n) := by
  obtain ⟨i, hi, hp⟩ := Option.map_eq_some_iff.1 tInts.info
  simp only [Prod.mk.injEq] at hp
  obtain ⟨hz, hsz, hby⟩ := hp
  have HI := Lib.hid hi
  have HZ := Lib.hid hz
  have HS := Lib.hid hsz
  have HB := Lib.hid hby
  clear hi hz hsz hby
  go_enter Try.func52, Try.ntmps52
  go_wp2_with (
    at_make
    refine wpList_make_full _ rfl _ _ 22 rfl w.heap.size 3 i (.int .i64 0) 1 tInts.ht HI.out HZ.out HS.out .i64 .i64 _ _ n rfl rfl rfl rfl (by rw [HB.out]; omega) (by unfold maxLen; omega) (Nat.le_refl _) ?_
    rintro w1 h1 h2
  )
  go_ret
  have hlt : w.heap.size < w1.heap.size := (h1.lt _ rfl).2
  refine ⟨w1.heap.size, w.heap.size, rfl, ⟨by omega, 0, n, ?_, ?_⟩, by omega, Nat.le_refl _, ?_⟩
  · rw [List.length_replicate]; exact heap_alloc_new w1 _
  · refine RowAt.ext (w := w1) ?_ (ext_lit _ _ _)
    rcases h1.2 with ⟨hh, _⟩ | ⟨g, cap, cur, hv, hb, hg, hc, hm, hs, ht⟩
    · cases hh
    · injection hv with e1 e2 e3
      injection e1 with e1
      injection e1 with e1
      subst e1; subst e3
      refine ⟨cur, hg, by simp, by omega, fun j hj => ?_⟩
      rw [List.length_replicate] at hj
      have e := congrArg (fun l => l[j]?) ht
      simp only [List.getElem?_take, Nat.mul_one] at e
      rw [if_pos hj] at e
      rw [Nat.zero_add, ← Array.getElem?_toList, e]
      have hm1 : j % 1 = 0 := Nat.mod_one j
      simp [madeCells, Value.cells, hj, hm1]
  · have : Ext w w1 := ⟨h2.os, h2.tape, h2.output, h2.size, fun k hk => h2.block k hk (by simp)⟩
    exact this.tr (ext_lit _ _ _)
end Go.Proofs.Ytafnadaahnkcmaa
