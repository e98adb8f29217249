/- start, decide, Play. -/
import Derived.Test.YtafnadaahnkcmaaQueue
namespace Go.Proofs.Ytafnadaahnkcmaa
open Go.RowKit
set_option linter.unusedVariables false

def ctl (l : Loop) (qb : Nat) : Value := .agg #[.int .i64 l.dead, .int .i64 l.noise, .int .i64 l.blur, .int .i64 l.step, .pointer (some ⟨qb, 0, none⟩)]

def StartPost (w : World) (l : Loop) (n : Nat) (e : Ending) (w' : World) : Prop :=
  ∃ qb g, e = .returned (ctl l qb) ∧ QSt w' qb g (List.replicate n 0) ∧ w.heap.size ≤ qb ∧ w.heap.size ≤ g ∧ Ext w w'

set_option maxHeartbeats 200000 in
theorem start_any (l : Loop) (n : Nat) (w : World) (hn : n ≤ 1000000) (hd : l.dead = n) :
    Calls Try.prog 39 #[l.val] w (StartPost w l n) := by
  obtain ⟨d, ns, b, s⟩ := l
  unfold Loop.val
  dsimp only at hd ⊢
  subst hd
  go_enter Try.func39, Try.ntmps39
  go_wp2_with (first
    | ((with_reducible refine wpList_box (v := .agg #[.int .i64 (n:Int), .int .i64 ns, .int .i64 b, .int .i64 s]) rfl rfl rfl ?_); rintro lb w1 ⟨hb1, hx1, hl1⟩)
    | ((with_reducible refine wpList_alloc rfl rfl Try.zeroValue95 ?_); rintro rb w2 ⟨hb2, hx2, hl2⟩))
  have hb1' := hx2.blk hb1
  have HX : Hid (Ext w w2) := hx1.tr hx2
  have c0 : ∀ i, w2.cell? ⟨lb, i, none⟩ = (#[Value.int .i64 (n:Int), .int .i64 ns, .int .i64 b, .int .i64 s] : Array Value)[i]? := blk_cell hb1'
  have HB := Lib.hid hb2
  have hlt : w.heap.size ≤ lb := hl1
  have hlt1 : lb < rb := Nat.lt_of_lt_of_le (blk_lt hb1) hl2
  have hne : rb ≠ lb := by omega
  clear hb1 hb1' hb2 hx1 hx2 hl1 hl2
  go_region_held3 (fun wr => ∀ i, wr.cell? ⟨lb, i, none⟩ = (#[Value.int .i64 (n:Int), .int .i64 ns, .int .i64 b, .int .i64 s] : Array Value)[i]?)
    ((first | with_reducible assumption | (simp only [World.cell?_drew]; with_reducible assumption) | (simp only [World.cell?_setCell_far, ne_eq, hne, not_false_eq_true]; with_reducible assumption)))
    ((first | (
      go_at_call 52
      refine (newQueue_any n _ hn).mono ?_
      rintro x w3 ⟨qb, g, rfl, hq, hqb, hg, hext⟩
      have hb3 := hext.blk (show w2.drew.heap[rb]? = _ from HB.out)
      have k0 := blk_cell hb3
      have f0 := blk_free hb3
      have hlb : lb < w2.heap.size := Nat.lt_trans hlt1 (blk_lt HB.out)
      have c3 : ∀ i, w3.cell? ⟨lb, i, none⟩ = (#[Value.int .i64 (n:Int), .int .i64 ns, .int .i64 b, .int .i64 s] : Array Value)[i]? := fun i => (hext.cell (p := ⟨lb, i, none⟩) hlb).trans (c0 i)
      have HQ := Lib.hid hq
      have HE := Lib.hid hext
      have HB3 := Lib.hid hb3
      clear hq hb3)))
  go_wp2
  have hlt2 : rb < w2.heap.size := blk_lt HB.out
  have hq1 : rb < qb := Nat.lt_of_lt_of_le hlt2 hqb
  have hg1 : rb < g := Nat.lt_of_lt_of_le hlt2 hg
  have hb : w.heap.size ≤ rb := by omega
  refine bodyPost_ret (v := ctl ⟨n, ns, b, s⟩ qb) (by simp [results, Try.results39, go_sem, k0, ctl]) rfl ⟨qb, g, rfl, ?_, ?_, ?_, ?_⟩
  · have hS : ∀ (w' : World) (i : Nat) (v : Value), Only (fun k => k = rb) w' (w'.setCell ⟨rb, i, none⟩ v) := fun w' i v => Only.set _ _ _ rfl
    exact ((((HQ.out.only (hS _ _ _) (by omega) (by omega)).only (hS _ _ _) (by omega) (by omega)).only (hS _ _ _) (by omega) (by omega)).only (hS _ _ _) (by omega) (by omega)).only (hS _ _ _) (by omega) (by omega)
  · omega
  · omega
  · have h3 : Ext w w3 := HX.out.drew.tr HE.out
    exact ((((h3.setCell hb _).setCell hb _).setCell hb _).setCell hb _).setCell hb _

/-- The correction that a measurement asks for. -/
def clamp (s v : Int) : Int := max (min v s) (-s)
def sumL (l : List Int) : Int := l.foldl (· + ·) 0
theorem sumL_snoc (xs : List Int) (k : Nat) (h : k < xs.length) : sumL (xs.take (k+1)) = sumL (xs.take k) + xs[k] := by
  rw [List.take_succ_eq_append_getElem h]; unfold sumL; rw [List.foldl_append]; rfl
theorem sumL_bound (xs : List Int) (B : Int) (hB : 0 ≤ B) (h : ∀ x ∈ xs, -B ≤ x ∧ x ≤ B) (k : Nat) (hk : k ≤ xs.length) : -(B * k) ≤ sumL (xs.take k) ∧ sumL (xs.take k) ≤ B * k := by
  induction k with
  | zero => simp [sumL]
  | succ k ih =>
    obtain ⟨h1, h2⟩ := ih (by omega)
    obtain ⟨h3, h4⟩ := h xs[k] (List.getElem_mem (by omega))
    rw [sumL_snoc xs k (by omega)]
    have : B * ((k + 1 : Nat) : Int) = B * k + B := by push_cast; rw [Int.mul_add]; omega
    rw [this]; constructor <;> omega

def DecPost (w : World) (l : Loop) (qb g : Nat) (xs : List Int) (m : Int) (is : Bool) (e : Ending) (w' : World) : Prop :=
  ∃ u g', u = (if is then clamp l.step (-(m + sumL xs)) else 0) ∧ e = .returned (.tuple #[.int .i64 u, .int .i64 (hdQ xs u)]) ∧ QSt w' qb g' (tlQ xs u) ∧ (g' = g ∨ w.heap.size ≤ g') ∧ Only (fun k => k = g ∨ k = qb) w w'

set_option maxHeartbeats 1000000 in
theorem decide_any (l : Loop) (qb g : Nat) (xs : List Int) (m : Int) (is : Bool) (w : World) (hq : QSt w qb g xs) (hlen : xs.length ≤ 100) (hxs : ∀ x ∈ xs, -10000 ≤ x ∧ x ≤ 10000)
    (hm : -2000000000 ≤ m ∧ m ≤ 2000000000) (hs : 1 ≤ l.step ∧ l.step ≤ 10000) :
    Calls Try.prog 40 #[ctl l qb, .int .i64 m, .bool is] w (DecPost w l qb g xs m is) := by
  obtain ⟨d, n, b, s⟩ := l
  obtain ⟨m1, m2⟩ := hm
  obtain ⟨s1, s2⟩ := hs
  unfold ctl
  dsimp only at s1 s2 ⊢
  have hb := sumL_bound xs 10000 (by omega) hxs
  have HBS := Lib.hid hb
  have HXS := Lib.hid hxs
  clear hb hxs
  obtain ⟨hqlt, hglt⟩ := hq.lt
  have HQ := Lib.hid hq
  obtain ⟨hne, o, c, hq, hr⟩ := hq
  go_enter Try.func40, Try.ntmps40
  go_wp2_with (
    with_reducible refine wpList_box (v := .agg #[.int .i64 d, .int .i64 n, .int .i64 b, .int .i64 s, .pointer (some ⟨qb, 0, none⟩)]) rfl rfl rfl ?_
    rintro lb w1 ⟨hb1, hx1, hl1⟩
    have c0 : ∀ i, w1.cell? ⟨lb, i, none⟩ = (#[Value.int .i64 d, .int .i64 n, .int .i64 b, .int .i64 s, .pointer (some ⟨qb, 0, none⟩)] : Array Value)[i]? := blk_cell hb1
    have c1 : w1.cell? ⟨qb, 0, none⟩ = some (.slice (some ⟨g, o, none⟩) xs.length c) := cell_of_one (hx1.blk hq)
    have HR := Lib.hid (hr.ext hx1)
    have HX := Lib.hid hx1
    clear hb1 hx1 hq hr
  )
  have Q1 : Hid (QSt w1 qb g xs) := HQ.out.ext HX.out
  go_loop [1, 17] (fun t1 t => ∃ k : Nat, k ≤ xs.length ∧ t = .int .i64 k ∧ t1 = .int .i64 (m + sumL (xs.take k))) (fun _ t => xs.length - (intOf t).toNat)
  case atStart => exact ⟨0, Nat.zero_le _, rfl, by simp [sumL]⟩
  case round =>
    obtain ⟨k, hk, rfl, rfl⟩ := hrel
    by_cases hlt : k < xs.length
    · have hce := HR.out.cell k hlt
      have i1 : (0:Int) ≤ (k:Int) := by omega
      have i2 : (k:Int) < (xs.length:Int) := by omega
      obtain ⟨b1, b2⟩ := HBS.out k hk
      obtain ⟨x1, x2⟩ := HXS.out xs[k] (List.getElem_mem hlt)
      have HE := Lib.hid (sumL_snoc xs k hlt)
      go_wp2
      go_round
      case rel => exact ⟨k+1, by omega, by go_num, by rw [HE.out]; congr 1; omega⟩
      case measure => simp [intOf]; omega
    · have hk' : k = xs.length := by omega
      have ht : xs.take k = xs := List.take_of_length_le (by omega)
      obtain ⟨b1, b2⟩ := HBS.out k hk
      rw [ht] at b1 b2 ⊢
      have hmn : min (-(m + sumL xs)) s = if -(m + sumL xs) ≤ s then -(m + sumL xs) else s := rfl
      clear ht hk' hmn
      cases is
      · have HP := Lib.hid (put_any qb g xs 0 w1 Q1.out (by omega))
        clear Q1
        go_wp2_with (go_at_call 53; refine HP.out.mono ?_; rintro e w2 ⟨rfl, g', hq', hg', ho'⟩)
        go_ret2
        refine ⟨0, g', rfl, rfl, hq', ?_, (Only.of_ext HX.out).tr ho'⟩
        rcases hg' with h | h
        · exact Or.inl h
        · exact Or.inr (Nat.le_trans HX.out.size h)
      · have fin : ∀ (u : Int) (g' : Nat) (w2 : World), clamp s (-(m + sumL xs)) = u → QSt w2 qb g' (tlQ xs u) → (g' = g ∨ w1.heap.size ≤ g') → Only (fun k => k = g ∨ k = qb) w1 w2 →
            DecPost w ⟨d, n, b, s⟩ qb g xs m true (.returned (.tuple #[.int .i64 u, .int .i64 (hdQ xs u)])) w2 := fun u g' w2 hu hq' hg' ho' => by
          refine ⟨u, g', ?_, rfl, hq', ?_, (Only.of_ext HX.out).tr ho'⟩
          · rw [← hu]; rfl
          · rcases hg' with h | h
            · exact Or.inl h
            · exact Or.inr (Nat.le_trans HX.out.size h)
        have FIN := Lib.hid fin
        clear fin
        by_cases hA : s < -(m + sumL xs)
        · have hu : clamp s (-(m + sumL xs)) = s := by unfold clamp; omega
          have HU := Lib.hid hu
          have HP := Lib.hid (put_any qb g xs s w1 Q1.out (by omega))
          clear Q1 hu
          go_wp2_with (go_at_call 53; refine HP.out.mono ?_; rintro e w2 ⟨rfl, g', hq', hg', ho'⟩)
          go_ret2
          exact FIN.out _ _ _ HU.out hq' hg' ho'
        · by_cases hB : -(m + sumL xs) < -s
          · have hu : clamp s (-(m + sumL xs)) = -s := by unfold clamp; omega
            have HU := Lib.hid hu
            have HP := Lib.hid (put_any qb g xs (-s) w1 Q1.out (by omega))
            clear Q1 hu
            go_wp2_with (go_at_call 53; refine HP.out.mono ?_; rintro e w2 ⟨rfl, g', hq', hg', ho'⟩)
            go_ret2
            exact FIN.out _ _ _ HU.out hq' hg' ho'
          · have hu : clamp s (-(m + sumL xs)) = -(m + sumL xs) := by unfold clamp; omega
            have HU := Lib.hid hu
            have HP := Lib.hid (put_any qb g xs (-(m + sumL xs)) w1 Q1.out (by omega))
            clear Q1 hu
            go_wp2_with (go_at_call 53; refine HP.out.mono ?_; rintro e w2 ⟨rfl, g', hq', hg', ho'⟩)
            go_ret2
            exact FIN.out _ _ _ HU.out hq' hg' ho'
end Go.Proofs.Ytafnadaahnkcmaa
