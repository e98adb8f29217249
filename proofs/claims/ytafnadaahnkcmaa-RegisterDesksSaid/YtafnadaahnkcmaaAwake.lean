/- errors, awake. -/
import Derived.Test.YtafnadaahnkcmaaMatchT
import Derived.Test.YtafnadaahnkcmaaPlay2
import Derived.Test.YtafnadaahnkcmaaSettle
namespace Go.Proofs.Ytafnadaahnkcmaa
open Go.RowKit
set_option linter.unusedVariables false

/-- A slice of moments. -/
def Moms (w : World) (v : Value) (f g : Nat → Int) (n : Nat) : Prop :=
  n ≤ 9223372036854775807 ∧ ∃ a c, v = .slice a n c ∧ (0 < n → ∃ b o, a = some ⟨b, o, none⟩ ∧ ∀ k, k < n → w.cell? ⟨b, o + k * 2, none⟩ = some (.int .i64 (f k)) ∧ w.cell? ⟨b, o + k * 2 + 1, none⟩ = some (.int .i64 (g k)))
theorem Moms.ext {w w' : World} {v : Value} {f g : Nat → Int} {n : Nat} (h : Moms w v f g n) (hx : Ext w w') : Moms w' v f g n := by
  obtain ⟨h1, a, c, h2, h3⟩ := h
  refine ⟨h1, a, c, h2, fun h0 => ?_⟩
  obtain ⟨b, o, h4, h5⟩ := h3 h0
  exact ⟨b, o, h4, fun k hk => ⟨hx.cellSome (h5 k hk).1, hx.cellSome (h5 k hk).2⟩⟩
theorem plCells_get (s e0 : Int) (D : Nat) (nz bl : Nat → Int) (n k : Nat) (hk : k < n) :
    (plCells s e0 D nz bl n)[k * 2]? = some (.int .i64 (plSt s e0 D nz bl k).1) ∧ (plCells s e0 D nz bl n)[k * 2 + 1]? = some (.int .i64 (plMove s e0 D nz bl k)) := by
  induction n with
  | zero => omega
  | succ n ih =>
    have hl : ∀ m, (plCells s e0 D nz bl m).length = m * 2 := fun m => by
      induction m with
      | zero => rfl
      | succ m ih => rw [plCells_succ, List.length_append, ih]; simp; omega
    rw [plCells_succ]
    by_cases h : k < n
    · obtain ⟨h1, h2⟩ := ih h
      rw [List.getElem?_append_left (by rw [hl]; omega), List.getElem?_append_left (by rw [hl]; omega)]
      exact ⟨h1, h2⟩
    · obtain rfl : k = n := by omega
      rw [List.getElem?_append_right (by rw [hl]; omega), List.getElem?_append_right (by rw [hl]; omega), hl]
      have e1 : k * 2 + 1 - k * 2 = 1 := by omega
      rw [Nat.sub_self, e1]
      exact ⟨rfl, rfl⟩
theorem Moms.of_owns {w : World} {base : Nat} {v : Value} {n : Nat} {s e0 : Int} {D : Nat} {nz bl : Nat → Int} (h : w.ownsRow base 46 2 v n (plCells s e0 D nz bl n)) :
    Moms w v (fun k => (plSt s e0 D nz bl k).1) (plMove s e0 D nz bl) n := by
  obtain ⟨h1, h2⟩ := h
  rcases h2 with ⟨rfl, rfl⟩ | ⟨g, cap, cur, rfl, hb, hg, hc, hm, hs, ht⟩
  · exact ⟨by omega, none, 0, rfl, fun h => by omega⟩
  · unfold maxLen at hm
    have key : ∀ i u, (plCells s e0 D nz bl n)[i]? = some u → w.cell? ⟨g, 0 + i, none⟩ = some u := fun i u hu => by
      rw [cell_of_row w g (0 + i) cur _ (0, 0) hg]
      rw [← ht, List.getElem?_take] at hu
      split at hu
      · simpa using hu
      · cases hu
    refine ⟨by omega, some ⟨g, 0, none⟩, cap, rfl, fun _ => ⟨g, 0, rfl, fun k hk => ?_⟩⟩
    obtain ⟨k1, k2⟩ := plCells_get s e0 D nz bl n k hk
    exact ⟨key _ _ k1, by have := key _ _ k2; rwa [← Nat.add_assoc] at this⟩

set_option maxRecDepth 100000 in
set_option maxHeartbeats 2000000 in
theorem errors_true (f g : Nat → Int) (n : Nat) (xs : List Int) (va vb : Value) (w : World) (ha : Moms w va f g n) (hb : Ints w vb xs) (heq : xs = (List.range n).map f) :
    Calls Try.prog 30 #[va, vb] w fun e w' => e = .returned (.bool true) ∧ Ext w w' := by
  have hlen : xs.length = n := by rw [heq]; simp
  have hget : ∀ k (h : k < xs.length), f k = xs[k] := fun k h => by subst heq; simp
  have hx := hb.len
  obtain ⟨a, c, rfl, Hb⟩ := hb.form
  obtain ⟨_, a2, c2, rfl, Ha⟩ := ha
  have HA := Lib.hid Ha
  have HG := Lib.hid hget
  clear hb Ha hget heq
  subst hlen
  go_enter Try.func30, Try.ntmps30
  go_wp2
  go_loopw [5] (fun t wr => ∃ k : Nat, k ≤ xs.length ∧ t = .int .i64 k ∧ Hid (∃ n, wr = w.drewN n)) (fun t _ => xs.length - (intOf t).toNat)
  case atStart => exact ⟨0, Nat.zero_le _, rfl, 0, rfl⟩
  case round =>
    obtain ⟨k, hk, rfl, HW⟩ := hrel
    have HXR : Hid (Ext w wr) := by obtain ⟨n, hn⟩ := HW.out; rw [hn]; exact Ext.of_drewN _ _
    by_cases hlt : k < xs.length
    · obtain ⟨b1, o1, rfl, hc1⟩ := Ints.cells (xs := xs) (Hb.out.ext HXR.out) (by omega)
      have c1 := hc1 k hlt
      obtain ⟨b2, o2, rfl, hc2⟩ := HA.out (by omega)
      have c2 := HXR.out.cellSome (hc2 k hlt).1
      have j1 : (0:Int) ≤ (k:Int) := by omega
      have j2 : (k:Int) < (xs.length:Int) := by omega
      have hg := HG.out k hlt
      obtain ⟨p, hp⟩ : ∃ p, p = f k := ⟨_, rfl⟩
      rw [← hg, ← hp] at c1
      rw [← hp] at c2
      clear hc1 hc2 hg hp
      go_wp2
      go_quiet (fail)
      go_wp2
      go_roundw
      case rel => exact ⟨k + 1, by omega, by go_num, by obtain ⟨n, hn⟩ := HW.out; exact ⟨n + nq, by rw [hn]; exact World.drewN_drewN ..⟩⟩
      case measure => simp [intOf]; omega
    · go_wp2
      go_ret
      exact ⟨rfl, HXR.out⟩

/-! ### What the examples come to -/
theorem bestS_stay (f : Int → Int) (l1 l2 : List Int) (h : ∀ s, f s ≤ (bestS f l1).2) : bestS f (l1 ++ l2) = bestS f l1 := by
  induction l2 generalizing l1 with
  | nil => simp
  | cons x l2 ih =>
    have h1 : bestS f (l1 ++ [x]) = bestS f l1 := by rw [bestS_snoc, if_neg (by have := h x; omega)]
    have h2 := ih (l1 ++ [x]) (by rw [h1]; exact h)
    rw [h1] at h2
    simpa using h2
theorem shs_split (a b : Nat) : ∃ l, shs (a + b) = shs a ++ l := by
  unfold shs
  rw [List.range_add, List.flatMap_append]
  exact ⟨_, rfl⟩
theorem ex_match1 : (bestS (cntF [0, 100, 300] [49, 151, 200, 351] 2) (shs 50)) = (49, 3) := by decide +kernel
theorem ex_match : (bestS (cntF [0, 100, 300] [49, 151, 200, 351] 2) (shs 2001)) = (49, 3) := by
  obtain ⟨l, hl⟩ := shs_split 50 1951
  rw [hl, bestS_stay, ex_match1]
  intro s
  rw [ex_match1]
  have := (cntL_bd (fitL [0, 100, 300] [49, 151, 200, 351] 2 s)).2
  simpa [fitL, cntF] using this
theorem ex_found : fitL [0, 100, 300] [49, 151, 200, 351] 2 49 = [49, 151, 351] := by decide +kernel
theorem ex_one : [0, 3, 6, 10] = (List.range 4).map fun k => (plSt 10 0 2 (gD [3, 3, 3, 3]) (gD [-1, 0, 0, 0]) k).1 := by decide +kernel
theorem ex_two : [4, 5, -5] = (List.range 3).map fun k => (plSt 5 4 0 (gD [5, -5, 0]) (gD [0, 0, 0]) k).1 := by decide +kernel
theorem ex_good : GoodP [0, 100, 300] 2 := by
  refine ⟨by omega, fun j hj => ?_⟩
  match j, hj with
  | 0, _ => simp
  | 1, _ => simp
  | 2, _ => simp
theorem ex_seen : SeenOk [49, 151, 200, 351] := fun j hj => by
  match j, hj with
  | 0, _ => simp
  | 1, _ => simp
  | 2, _ => simp
  | 3, _ => simp
theorem ex_err : matchErr [0, 100, 300] [49, 151, 200, 351] 2 = 0 := by
  unfold matchErr
  rw [if_neg (by simp), if_neg (fun h => h ex_good), if_neg (fun h => h ex_seen)]

theorem ex_ok1 : (⟨2, 3, 1, 10⟩ : Loop).Ok := by decide
theorem ex_ok2 : (⟨0, 5, 0, 5⟩ : Loop).Ok := by decide

theorem ex_settle : (⟨2, 3, 1, 10⟩ : Loop).settle 25 = 6 := by decide
theorem lit2 (w : World) (o : Obj) (cs : List Value) (e : TypeId) (c n : Nat) (hn : n = cs.length) (h : cs.length ≤ 9223372036854775807) :
    Sl ((w.alloc o).alloc (.cells cs.toArray e)) (.slice (some ⟨w.heap.size + 1, 0, none⟩) n c) cs := by
  have := Sl.lit (w.alloc o) cs e c n hn h
  rwa [World.size_alloc] at this
theorem TopPost.ex {w w' : World} {e : Ending} (h : TopPost w [0, 100, 300] [49, 151, 200, 351] 2 e w') :
    ∃ v, e = .returned (.tuple #[.agg #[.int .i64 49, .int .i64 3, v], .int .i64 0]) ∧ w'.ownsRow w.heap.size 3 1 v 3 [.int .i64 49, .int .i64 151, .int .i64 351] ∧ Ext w w' := by
  obtain ⟨⟨er, h1, h2, _⟩ | ⟨_, v, h1, h2⟩, hx⟩ := h
  · rw [ex_err] at h1; exact absurd h1 h2
  · rw [ex_match] at h1 h2
    rw [ex_found] at h2
    exact ⟨v, h1, h2, hx⟩

set_option maxRecDepth 100000 in
set_option maxHeartbeats 4000000 in
theorem awake_true (w : World) : Calls Try.prog 9 #[] w fun e w' => e = .returned (.bool true) ∧ Ext w w' := by
  go_enter Try.func9, Try.ntmps9
  go_upto_region 7 with (first
    | (with_reducible refine wpList_alloc (o := ⟨some 1, _, _, _, _, _⟩) rfl rfl Try.zeroValue36 ?_
       rintro lb w1 ⟨hb1, hx1, hl1⟩
       have HB1 := Lib.hid hb1
       have HX1 := Lib.hid hx1
       have L1 := Lib.hid hl1
       clear hb1 hx1 hl1)
    | (with_reducible refine wpList_storeB (b := lb) (cells := #[.int .i64 2, .int .i64 3, .int .i64 1, .int .i64 10]) rfl rfl ?_ ?_ HB1.out ?_ ?_ ?_ ?_
       · rfl
       · rfl
       · kernel_rfl
       · rfl
       · simp [Value.oneCell']
       rintro w2 hb2 ho2
       have c2 : ∀ i, w2.cell? ⟨lb, i, none⟩ = (#[.int .i64 2, .int .i64 3, .int .i64 1, .int .i64 10] : Array Value)[i]? := blk_cell hb2
       have HB2 := Lib.hid hb2
       have HX2 := Lib.hid (HX1.out.then_only ho2 (fun k (e : k = lb) => by have := L1.out; omega))
       clear hb2 ho2 HB1 HX1)
    | (go_at_call 15
       refine (bound_ok ⟨2, 3, 1, 10⟩ _ ex_ok1).mono ?_
       rintro e w3 ⟨rfl, hx3⟩
       have HX3 := Lib.hid (HX2.out.tr hx3)
       have HB3 := Lib.hid (hx3.blk HB2.out)
       have c3 : ∀ i, w3.cell? ⟨lb, i, none⟩ = (#[.int .i64 2, .int .i64 3, .int .i64 1, .int .i64 10] : Array Value)[i]? := blk_cell HB3.out
       clear hx3)
    | (go_at_call 16
       refine (settle_ok ⟨2, 3, 1, 10⟩ 25 _ ex_ok1 (by decide) (by decide)).mono ?_
       rintro e w4 ⟨rfl, hx4⟩
       rw [ex_settle]
       have HX4 := Lib.hid (HX3.out.tr hx4)
       have HB4 := Lib.hid (hx4.blk HB3.out)
       have c4 : ∀ i, w4.cell? ⟨lb, i, none⟩ = (#[.int .i64 2, .int .i64 3, .int .i64 1, .int .i64 10] : Array Value)[i]? := blk_cell HB4.out
       clear hx4)
    | (have hgd := HX4.out
       go_at_call 17
       refine (play_ok ⟨2, 3, 1, 10⟩ 0 [3, 3, 3, 3] [-1, 0, 0, 0] _ _ _ ex_ok1 (by decide) ((Sl.lit w4 [.int .i64 3, .int .i64 3, .int .i64 3, .int .i64 3] 3 4 4 rfl (by simp)).ext (ext_lit _ _ _)) (lit2 w4 _ [.int .i64 (-1), .int .i64 0, .int .i64 0, .int .i64 0] 3 4 4 rfl (by simp)) rfl (by decide) (by decide) (by decide)).mono ?_
       rintro e w5 ⟨v1, rfl, ho5, hx5⟩
       have HX5 := Lib.hid (((HX4.out.tr (ext_lit _ _ _)).tr (ext_lit _ _ _)).tr hx5)
       have HM5 := Lib.hid (Moms.of_owns ho5)
       clear hx5 ho5 HX4 hgd)
    | (have hgd := HX5.out
       go_at_call 17
       refine (play_ok ⟨0, 5, 0, 5⟩ 4 [5, -5, 0] [0, 0, 0] _ _ _ ex_ok2 (by decide) ((Sl.lit w5 [.int .i64 5, .int .i64 (-5), .int .i64 0] 3 3 3 rfl (by simp)).ext (ext_lit _ _ _)) (lit2 w5 _ [.int .i64 0, .int .i64 0, .int .i64 0] 3 3 3 rfl (by simp)) rfl (by decide) (by decide) (by decide)).mono ?_
       rintro e w6 ⟨v2, rfl, ho6, hx6⟩
       have hx6' := ((ext_lit w5 _ _).tr (ext_lit _ _ _)).tr hx6
       have HX6 := Lib.hid (HX5.out.tr hx6')
       have HM6 := Lib.hid (HM5.out.ext hx6')
       have HN6 := Lib.hid (Moms.of_owns ho6)
       clear hx6 ho6 hx6' HX5 hgd)
    | (go_at_call 11
       refine (matchTop_any [0, 100, 300] [49, 151, 200, 351] _ _ _ _ 2 _ ((Sl.lit w6 [.int .i64 0, .int .i64 100, .int .i64 300] 3 3 3 rfl (by simp)).ext (ext_lit _ _ _)) (lit2 w6 _ [.int .i64 49, .int .i64 151, .int .i64 200, .int .i64 351] 3 4 4 rfl (by simp)) (by decide) (by decide) (by decide)).mono ?_
       rintro e w7 h7
       obtain ⟨v3, rfl, ho7, hx7⟩ := h7.ex
       have hx7' := ((ext_lit w6 _ _).tr (ext_lit _ _ _)).tr hx7
       have HX7 := Lib.hid (HX6.out.tr hx7')
       have HM7 := Lib.hid (HM6.out.ext hx7')
       have HN7 := Lib.hid (HN6.out.ext hx7')
       obtain ⟨g, cap, rfl⟩ := ownsRow_succ ho7
       have HS7 := Lib.hid (Sl.of_owns ho7)
       clear h7 ho7 hx7 hx7')
    | (with_reducible refine wpList_alloc (o := ⟨some 10, _, _, _, _, _⟩) rfl rfl Try.zeroValue26 ?_
       rintro fb w8 ⟨hb8, hx8, hl8⟩
       have HB8 := Lib.hid hb8
       have HX8 := Lib.hid (HX7.out.tr hx8)
       have HM8 := Lib.hid (HM7.out.ext hx8)
       have HN8 := Lib.hid (HN7.out.ext hx8)
       have HS8 := Lib.hid (HS7.out.ext hx8)
       have L8 := Lib.hid hl8
       have G8 := Lib.hid hx8
       clear hb8 hx8 hl8)
    | (with_reducible refine wpList_storeB (b := fb) (cells := #[.int .i64 49, .int .i64 3, .slice (some ⟨g, 0, none⟩) 3 cap]) rfl rfl ?_ ?_ HB8.out ?_ ?_ ?_ ?_
       · rfl
       · rfl
       · kernel_rfl
       · rfl
       · simp [Value.oneCell']
       rintro w9 hb9 ho9
       have hx9 : Ext w7 w9 := G8.out.then_only ho9 (fun k (e : k = fb) => by have := L8.out; omega)
       have c9 : ∀ i, w9.cell? ⟨fb, i, none⟩ = (#[.int .i64 49, .int .i64 3, .slice (some ⟨g, 0, none⟩) 3 cap] : Array Value)[i]? := blk_cell hb9
       have HX9 := Lib.hid (HX7.out.tr hx9)
       have HM9 := Lib.hid (HM7.out.ext hx9)
       have HN9 := Lib.hid (HN7.out.ext hx9)
       have HS9 := Lib.hid (HS7.out.ext hx9)
       clear hb9 ho9 hx9))
  go_wp2_with (first
    | (have hgd := HM9.out
       go_at_call 30
       refine (errors_true _ _ 4 [0, 3, 6, 10] _ _ _ (HM9.out.ext (ext_lit _ _ _)) (Sl.lit w9 [.int .i64 0, .int .i64 3, .int .i64 6, .int .i64 10] 3 4 4 rfl (by simp)) ex_one).mono ?_
       rintro e w10 ⟨rfl, hx10⟩
       have hx10' := (ext_lit w9 _ _).tr hx10
       have HX10 := Lib.hid (HX9.out.tr hx10')
       have HN10 := Lib.hid (HN9.out.ext hx10')
       have HS10 := Lib.hid (HS9.out.ext hx10')
       have HC10 := Lib.hid (fun i v (h : w9.cell? ⟨fb, i, none⟩ = some v) => hx10'.cellSome h)
       clear hx10 hx10' HM9 hgd)
    | (have hgd := HN10.out
       go_at_call 30
       refine (errors_true _ _ 3 [4, 5, -5] _ _ _ (HN10.out.ext (ext_lit _ _ _)) (Sl.lit w10 [.int .i64 4, .int .i64 5, .int .i64 (-5)] 3 3 3 rfl (by simp)) ex_two).mono ?_
       rintro e w11 ⟨rfl, hx11⟩
       have hx11' := (ext_lit w10 _ _).tr hx11
       have HX11 := Lib.hid (HX10.out.tr hx11')
       have HS11 := Lib.hid (HS10.out.ext hx11')
       have d0 : w11.cell? ⟨fb, 0, none⟩ = some (.int .i64 49) := hx11'.cellSome (HC10.out 0 _ (by rw [c9]; rfl))
       have d1 : w11.cell? ⟨fb, 1, none⟩ = some (.int .i64 3) := hx11'.cellSome (HC10.out 1 _ (by rw [c9]; rfl))
       have d2 : w11.cell? ⟨fb, 2, none⟩ = some (.slice (some ⟨g, 0, none⟩) 3 cap) := hx11'.cellSome (HC10.out 2 _ (by rw [c9]; rfl))
       clear hx11 hx11' HN10 hgd))
  have HS12 : Hid (Ints w11 (.slice (some ⟨g, 0, none⟩) 3 cap) [49, 151, 351]) := HS11.out
  refine (sameInts_any [49, 151, 351] [49, 151, 351] (.slice (some ⟨g, 0, none⟩) 3 cap) _ _ (HS12.out.ext (ext_lit _ _ _)) (Sl.lit w11 [.int .i64 49, .int .i64 151, .int .i64 351] 3 3 3 rfl (by simp))).mono ?_
  rintro e w12 ⟨rfl, n, hw12⟩
  have HX12 : Hid (Ext w w12) := by rw [hw12]; exact (HX11.out.tr (ext_lit _ _ _)).drewN n
  clear hw12
  go_wp2
  go_ret
  exact ⟨rfl, HX12.out⟩
end Go.Proofs.Ytafnadaahnkcmaa
