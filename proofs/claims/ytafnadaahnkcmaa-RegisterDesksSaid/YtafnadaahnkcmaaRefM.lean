/- The reference's Match. -/
import Derived.Test.YtafnadaahnkcmaaRef
import Derived.Test.YtafnadaahnkcmaaBest
import Derived.Deep.AppendLies
namespace Go.Proofs.Ytafnadaahnkcmaa
open Go.RowKit
set_option linter.unusedVariables false

theorem found_any' (xs : List Int) (va : Value) (lo hi : Int) (w : World) (ha : Ints w va xs) :
    Calls Try.prog 35 #[va, .int .i64 lo, .int .i64 hi] w fun e w' => e = .returned (.int .i64 (fnd xs lo hi)) ∧ w' = w :=
  (found_any xs va lo hi w ha).mono fun e w' ⟨a, b⟩ => ⟨a, b.symm⟩

theorem rBest_bd (f : Int → Int) (k : Nat) (hk : k ≤ 4001) : -2000 ≤ (rBest f k).1 ∧ (rBest f k).1 ≤ 2000 := by
  induction k with
  | zero => simp [rBest]
  | succ k ih =>
    have := ih (by omega)
    unfold rBest
    split
    · dsimp only; omega
    · exact this
structure RfSt (w : World) (rb bb : Nat) (f : Int → Int) (k : Nat) (wr : World) : Prop where
  r : wr.heap[rb]? = some (.cells #[.int .i64 0, .int .i64 0, .slice none 0 0] 30 (0, 0))
  b : wr.heap[bb]? = some (.cells #[.int .i64 (rBest f k).1, .int .i64 (rBest f k).2, .slice none 0 0] 30 (0, 0))
  ext : Ext w wr
theorem RfSt.drewN {w : World} {rb bb : Nat} {f : Int → Int} {k : Nat} {wr : World} (h : RfSt w rb bb f k wr) (n : Nat) : RfSt w rb bb f k (wr.drewN n) := ⟨h.r, h.b, h.ext.drewN n⟩

/-- What the last loop holds. -/
structure RfEnd (w : World) (rb bb : Nat) (bs bc : Int) (xs : List Int) (j : Nat) (v : Value) (wr : World) : Prop where
  r : wr.heap[rb]? = some (.cells #[.int .i64 0, .int .i64 0, .slice none 0 0] 30 (0, 0))
  b : wr.heap[bb]? = some (.cells #[.int .i64 bs, .int .i64 bc, v] 30 (0, 0))
  own : wr.ownsRow w.heap.size 3 1 v j ((xs.take j).map (.int .i64))
  ext : Ext w wr
  vb : v.ownBlock ≠ some bb
  vr : v.ownBlock ≠ some rb
theorem RfEnd.drewN {w : World} {rb bb : Nat} {bs bc : Int} {xs : List Int} {j : Nat} {v : Value} {wr : World} (h : RfEnd w rb bb bs bc xs j v wr) (n : Nat) : RfEnd w rb bb bs bc xs j v (wr.drewN n) :=
  ⟨h.r, h.b, owns_ext h.own (Ext.of_drewN wr n), h.ext.drewN n, h.vb, h.vr⟩

theorem RfEnd.next {w : World} {rb bb : Nat} {bs bc : Int} {xs : List Int} {j : Nat} {v : Value} {wr : World} (h : RfEnd w rb bb bs bc xs j v wr) {w1 w2 : World} {g cap : Nat} (hx : Ext wr w1)
    (hown : w2.ownsRow w.heap.size 3 1 (.slice (some ⟨g, 0, none⟩) (j + 1) cap) (j + 1) ((xs.take (j + 1)).map (.int .i64))) (hgr : w1.grownBy w2 v.ownBlock) (hat : v.ownBlock = some g ∨ g = wr.heap.size + 1) (hl : rb < bb) (hw : w.heap.size ≤ rb) :
    RfEnd w rb bb bs bc xs (j + 1) (.slice (some ⟨g, 0, none⟩) (j + 1) cap) (w2.setCell ⟨bb, 2, none⟩ (.slice (some ⟨g, 0, none⟩) (j + 1) cap)) := by
  obtain ⟨h1, h2, h3, h4, h5, h6⟩ := h
  have hs1 := hx.size
  have r2 : w2.heap[rb]? = some (.cells #[.int .i64 0, .int .i64 0, .slice none 0 0] 30 (0, 0)) := (hgr.block rb (by have := blk_lt h1; omega) (Ne.symm h6)).trans (hx.blk h1)
  have b2 : w2.heap[bb]? = some (.cells #[.int .i64 bs, .int .i64 bc, v] 30 (0, 0)) := (hgr.block bb (by have := blk_lt h2; omega) (Ne.symm h5)).trans (hx.blk h2)
  have hgb : g ≠ bb := by
    rcases hat with h | h
    · intro e; exact h5 (by rw [h, e])
    · have := blk_lt h2; omega
  have hgr' : g ≠ rb := by
    rcases hat with h | h
    · intro e; exact h6 (by rw [h, e])
    · have := blk_lt h1; omega
  have ho : Only (fun k => k = bb) w2 (w2.setCell ⟨bb, 2, none⟩ (.slice (some ⟨g, 0, none⟩) (j + 1) cap)) := Only.set _ _ _ rfl
  have hx2 : Ext w w2 := (h4.tr hx).grown hgr (h4.tr hx).size (fun k hk => (h3.lt k hk).1)
  refine ⟨ho.heap r2 (fun (e : rb = bb) => by omega), by simpa using blk_set b2 2 (.slice (some ⟨g, 0, none⟩) (j + 1) cap), owns_only hown ho (fun k hk (e : k = bb) => hgb (by cases hk; exact e)), hx2.then_only ho (fun k (e : k = bb) => by omega), ?_, ?_⟩
  · intro e; exact hgb (by simpa [Value.ownBlock] using e)
  · intro e; exact hgr' (by simpa [Value.ownBlock] using e)

open Classical in
set_option maxRecDepth 100000 in
set_option maxHeartbeats 8000000 in
theorem refMatch_any (pat seen : List Int) (ap as_ : Option Addr) (cp cs : Nat) (win : Int) (w : World) (hp : Ints w (.slice ap pat.length cp) pat) (hs : Ints w (.slice as_ seen.length cs) seen)
    (hpb : ∀ x ∈ pat, I64 x) (hw : I64 win) (hsb : ∀ x ∈ seen, I64 x) :
    Calls Try.prog 12 #[.slice ap pat.length cp, .int .i64 win, .slice as_ seen.length cs] w (TopPost w pat seen win) := by
  have hslen := hs.len
  have hplen := hp.len
  have HP := Lib.hid hp
  have HS := Lib.hid hs
  have HPB := Lib.hid hpb
  have HSB := Lib.hid hsb
  have HW := Lib.hid hw
  clear hp hs hpb hsb hw
  go_enter Try.func12, Try.ntmps12
  go_upto_region 1 with (
    with_reducible refine wpList_alloc (o := ⟨some 6, _, _, _, _, _⟩) rfl rfl Try.zeroValue30 ?_
    rintro rb w1 ⟨hb1, hx1, hl1⟩
    have HR1 := Lib.hid hb1
    have HX1 := Lib.hid hx1
    have L1 := Lib.hid hl1
    clear hb1 hx1 hl1)
  by_cases a1 : pat.length < 2
  · have HE : Hid (matchErr pat seen win = 2) := by unfold matchErr; rw [if_pos (by omega)]; exact rfl
    have d1 : decide ((pat.length:Int) < 2) = true := decide_eq_true (by omega)
    clear a1
    go_wp2_with (first
      | (with_reducible refine wpList_storeB (b := rb) (cells := #[.int .i64 0, .int .i64 0, .slice none 0 0]) rfl rfl ?_ ?_ HR1.out ?_ ?_ ?_ ?_
         · rfl
         · rfl
         · kernel_rfl
         · rfl
         · simp [Value.oneCell']
         rintro w5 hb5 ho5
         have cR : ∀ i, w5.cell? ⟨rb, i, none⟩ = (#[.int .i64 0, .int .i64 0, .slice none 0 0] : Array Value)[i]? := blk_cell hb5
         have HX5 := Lib.hid (HX1.out.then_only ho5 (fun k (hk : k = rb) => by have := L1.out; omega))
         clear hb5 ho5))
    refine bodyPost_ret (v := .tuple #[.agg #[.int .i64 0, .int .i64 0, .slice none 0 0], .int .i64 2]) (by simp [results, Try.results12, go_sem, cR]) rfl ⟨.inl ⟨2, HE.out.symm, by decide, rfl⟩, HX5.out⟩
  have d1 : decide ((pat.length:Int) < 2) = false := decide_eq_false (by omega)
  by_cases a2 : 12 < pat.length
  · have HE : Hid (matchErr pat seen win = 2) := by unfold matchErr; rw [if_pos (by omega)]; exact rfl
    have d2 : decide ((12:Int) < (pat.length:Int)) = true := decide_eq_true (by omega)
    clear a2
    go_wp2_with (first
      | (with_reducible refine wpList_storeB (b := rb) (cells := #[.int .i64 0, .int .i64 0, .slice none 0 0]) rfl rfl ?_ ?_ HR1.out ?_ ?_ ?_ ?_
         · rfl
         · rfl
         · kernel_rfl
         · rfl
         · simp [Value.oneCell']
         rintro w5 hb5 ho5
         have cR : ∀ i, w5.cell? ⟨rb, i, none⟩ = (#[.int .i64 0, .int .i64 0, .slice none 0 0] : Array Value)[i]? := blk_cell hb5
         have HX5 := Lib.hid (HX1.out.then_only ho5 (fun k (hk : k = rb) => by have := L1.out; omega))
         clear hb5 ho5))
    refine bodyPost_ret (v := .tuple #[.agg #[.int .i64 0, .int .i64 0, .slice none 0 0], .int .i64 2]) (by simp [results, Try.results12, go_sem, cR]) rfl ⟨.inl ⟨2, HE.out.symm, by decide, rfl⟩, HX5.out⟩
  have d2 : decide ((12:Int) < (pat.length:Int)) = false := decide_eq_false (by omega)
  by_cases a3 : 40 < seen.length
  · have HE : Hid (matchErr pat seen win = 2) := by unfold matchErr; rw [if_pos (by omega)]; exact rfl
    have d3 : decide ((40:Int) < (seen.length:Int)) = true := decide_eq_true (by omega)
    clear a3
    go_wp2_with (first
      | (with_reducible refine wpList_storeB (b := rb) (cells := #[.int .i64 0, .int .i64 0, .slice none 0 0]) rfl rfl ?_ ?_ HR1.out ?_ ?_ ?_ ?_
         · rfl
         · rfl
         · kernel_rfl
         · rfl
         · simp [Value.oneCell']
         rintro w5 hb5 ho5
         have cR : ∀ i, w5.cell? ⟨rb, i, none⟩ = (#[.int .i64 0, .int .i64 0, .slice none 0 0] : Array Value)[i]? := blk_cell hb5
         have HX5 := Lib.hid (HX1.out.then_only ho5 (fun k (hk : k = rb) => by have := L1.out; omega))
         clear hb5 ho5))
    refine bodyPost_ret (v := .tuple #[.agg #[.int .i64 0, .int .i64 0, .slice none 0 0], .int .i64 2]) (by simp [results, Try.results12, go_sem, cR]) rfl ⟨.inl ⟨2, HE.out.symm, by decide, rfl⟩, HX5.out⟩
  have d3 : decide ((40:Int) < (seen.length:Int)) = false := decide_eq_false (by omega)
  have hmE : matchErr pat seen win = if ¬ GoodP pat win then 6 else if ¬ SeenOk seen then 11 else 0 := by
    unfold matchErr; rw [if_neg (by omega)]
  have HWR := Lib.hid (wrong_any pat ap cp win w1 (HP.out.ext HX1.out) HW.out HPB.out)
  by_cases hgd : ¬ GoodP pat win
  · have HE : Hid (matchErr pat seen win = 6) := by rw [hmE, if_pos hgd]; exact rfl
    have hgb := goodB_false hgd
    have HGB := Lib.hid hgb
    clear hmE hgd hgb
    go_wp2_with (first
      | (go_at_call 34; refine HWR.out.mono ?_; rintro e w2 ⟨rfl, n2, hn2⟩; rw [HGB.out]
         have HX2 : Hid (Ext w w2) := by rw [hn2]; exact HX1.out.drewN n2
         have HR2 : Hid (w2.heap[rb]? = some (.cells #[.int .i64 0, .int .i64 0, .slice none 0 0] 30 (0, 0))) := by rw [hn2]; exact HR1.out
         clear hn2)
      | (with_reducible refine wpList_storeB (b := rb) (cells := #[.int .i64 0, .int .i64 0, .slice none 0 0]) rfl rfl ?_ ?_ HR2.out ?_ ?_ ?_ ?_
         · rfl
         · rfl
         · kernel_rfl
         · rfl
         · simp [Value.oneCell']
         rintro w5 hb5 ho5
         have cR : ∀ i, w5.cell? ⟨rb, i, none⟩ = (#[.int .i64 0, .int .i64 0, .slice none 0 0] : Array Value)[i]? := blk_cell hb5
         have HX5 := Lib.hid (HX2.out.then_only ho5 (fun k (hk : k = rb) => by have := L1.out; omega))
         clear hb5 ho5))
    refine bodyPost_ret (v := .tuple #[.agg #[.int .i64 0, .int .i64 0, .slice none 0 0], .int .i64 6]) (by simp [results, Try.results12, go_sem, cR]) rfl ⟨.inl ⟨6, HE.out.symm, by decide, rfl⟩, HX5.out⟩
  have hgood : GoodP pat win := Classical.not_not.1 hgd
  have hgb := goodB_true hgood
  have HGB := Lib.hid hgb
  rw [if_neg hgd] at hmE
  have HME := Lib.hid hmE
  have HG := Lib.hid hgood
  obtain ⟨win1, win2⟩ := hgood.1
  clear hmE hgd hgb hgood
  go_wp2_with (go_at_call 34; refine HWR.out.mono ?_; rintro e w2 ⟨rfl, n2, hn2⟩; rw [HGB.out]; have HX2 : Hid (Ext w w2) := (by rw [hn2]; exact HX1.out.drewN n2); have HR2 : Hid (w2.heap[rb]? = some (.cells #[.int .i64 0, .int .i64 0, .slice none 0 0] 30 (0, 0))) := (by rw [hn2]; exact HR1.out); clear hn2)
  go_loopw [8] (fun t wr => ∃ k : Nat, k ≤ seen.length ∧ t = .int .i64 k ∧ Hid (∃ n, wr = w2.drewN n) ∧ Hid (∀ j (h : j < seen.length), j < k → -100000 ≤ seen[j] ∧ seen[j] ≤ 200000 ∧ (∀ h0 : 0 < j, seen[j-1]'(by omega) < seen[j]))) (fun t _ => seen.length - (intOf t).toNat)
  case atStart => exact ⟨0, Nat.zero_le _, rfl, ⟨0, rfl⟩, fun j _ h => by omega⟩
  case round =>
    obtain ⟨k, hk, rfl, HDR, HR⟩ := hrel
    have HXR : Hid (Ext w wr) := by obtain ⟨n, hn⟩ := HDR.out; rw [hn]; exact HX2.out.drewN n
    have HB : Hid (wr.heap[rb]? = some (.cells #[.int .i64 0, .int .i64 0, .slice none 0 0] 30 (0, 0))) := by obtain ⟨n, hn⟩ := HDR.out; rw [hn]; exact HR2.out
    by_cases hlt : k < seen.length
    · obtain ⟨b1, o1, rfl, hc1⟩ := HS.out.cells (by omega)
      have c1 := HXR.out.cellSome (hc1 k hlt)
      have C2 := Lib.hid (show ∀ h0 : 0 < k, wr.cell? ⟨b1, o1 + (k - 1), none⟩ = some (.int .i64 (seen[k-1]'(by omega))) from fun h0 => HXR.out.cellSome (hc1 (k - 1) (by omega)))
      have j1 : (0:Int) ≤ (k:Int) := by omega
      have j2 : (k:Int) < (seen.length:Int) := by omega
      obtain ⟨p1, p2⟩ := HSB.out seen[k] (List.getElem_mem hlt)
      obtain ⟨p, hpe⟩ : ∃ p, p = seen[k] := ⟨_, rfl⟩
      have HPE := Lib.hid hpe
      rw [← hpe] at c1 p1 p2
      clear hc1 hpe
      by_cases hr : -100000 ≤ p ∧ p ≤ 200000
      · obtain ⟨r1, r2⟩ := hr
        have q1 : decide (p < -100000) = false := decide_eq_false (by omega)
        have q2 : decide (200000 < p) = false := decide_eq_false (by omega)
        by_cases hk0 : 0 < k
        · have c2' := C2.out hk0
          obtain ⟨q1', q2', _⟩ := HR.out (k - 1) (by omega) (by omega)
          obtain ⟨p', hpe'⟩ : ∃ p', p' = seen[k-1]'(by omega) := ⟨_, rfl⟩
          have HPE' := Lib.hid hpe'
          rw [← hpe'] at c2' q1' q2'
          clear hpe'
          have E1 := Lib.hid (i64_eq ((k:Int) - 1) (by omega))
          have E2 := Lib.hid (show ((k:Int) - 1).toNat = k - 1 by omega)
          have e3 : (0:Int) ≤ (k:Int) - 1 := by omega
          have e4 : (k:Int) - 1 < (seen.length:Int) := by omega
          have hgt : (0:Int) < (k:Int) := by omega
          have hgt' : decide ((0:Int) < (k:Int)) = true := decide_eq_true hgt
          by_cases hgd : p ≤ p'
          · have hns : ¬ SeenOk seen := fun hg => by
              have h2 := (hg k hlt).2.2 hk0
              rw [← HPE.out, ← HPE'.out] at h2
              omega
            have HE : Hid (matchErr pat seen win = 11) := HME.out.trans (if_pos hns)
            have hd3 : decide (p ≤ p') = true := decide_eq_true hgd
            clear hgd hns
            go_wp2
            have e1 := E1.out
            have e2 := E2.out
            go_quiet (fail)
            clear e1 e2
            have HB5 : Hid ((wr.drewN nq).heap[rb]? = some (.cells #[.int .i64 0, .int .i64 0, .slice none 0 0] 30 (0, 0))) := HB.out
            have HX4 := Lib.hid (HXR.out.drewN nq)
            go_wp2_with (
              with_reducible refine wpList_storeB (b := rb) (cells := #[.int .i64 0, .int .i64 0, .slice none 0 0]) rfl rfl ?_ ?_ HB5.out ?_ ?_ ?_ ?_
              · rfl
              · rfl
              · kernel_rfl
              · rfl
              · simp [Value.oneCell']
              rintro w5 hb5 ho5
              have cR : ∀ i, w5.cell? ⟨rb, i, none⟩ = (#[.int .i64 0, .int .i64 0, .slice none 0 0] : Array Value)[i]? := blk_cell hb5
              have HX5 := Lib.hid (HX4.out.then_only ho5 (fun k (hk : k = rb) => by have := L1.out; omega))
              clear hb5 ho5)
            refine bodyPost_ret (v := .tuple #[.agg #[.int .i64 0, .int .i64 0, .slice none 0 0], .int .i64 11]) (by simp [results, Try.results12, go_sem, cR]) rfl ⟨.inl ⟨11, HE.out.symm, by decide, rfl⟩, HX5.out⟩
          · have HN : Hid (∀ j (h : j < seen.length), j < k + 1 → -100000 ≤ seen[j] ∧ seen[j] ≤ 200000 ∧ (∀ h0 : 0 < j, seen[j-1]'(by omega) < seen[j])) := fun j hj hjk => by
              rcases Nat.lt_or_ge j k with h | h
              · exact HR.out j hj h
              · obtain rfl : j = k := by omega
                rw [← HPE.out]
                exact ⟨r1, r2, fun h0 => by rw [← HPE'.out]; omega⟩
            have hd3 : decide (p ≤ p') = false := decide_eq_false hgd
            clear hgd
            go_wp2
            have e1 := E1.out
            have e2 := E2.out
            go_quiet (fail)
            clear e1 e2
            go_wp2
            go_roundw
            case rel => exact ⟨k + 1, by omega, by go_num, by obtain ⟨n, hn⟩ := HDR.out; exact ⟨n + nq, by rw [hn]; exact World.drewN_drewN ..⟩, HN⟩
            case measure => simp [intOf]; omega
        · obtain rfl : k = 0 := by omega
          rw [Nat.add_zero] at c1
          have HN : Hid (∀ j (h : j < seen.length), j < 0 + 1 → -100000 ≤ seen[j] ∧ seen[j] ≤ 200000 ∧ (∀ h0 : 0 < j, seen[j-1]'(by omega) < seen[j])) := fun j hj hjk => by
            obtain rfl : j = 0 := by omega
            rw [← HPE.out]
            exact ⟨r1, r2, fun h0 => by omega⟩
          have hd3 : decide ((0:Int) < (((0:Nat):Int))) = false := by simp
          go_wp2
          go_quiet (fail)
          go_wp2
          go_roundw
          case rel => exact ⟨0 + 1, by omega, by go_num, by obtain ⟨n, hn⟩ := HDR.out; exact ⟨n + nq, by rw [hn]; exact World.drewN_drewN ..⟩, HN⟩
          case measure => simp [intOf]; omega
      · have hns : ¬ SeenOk seen := fun hg => by
          have h2 := hg k hlt
          rw [← HPE.out] at h2
          exact hr ⟨h2.1, h2.2.1⟩
        have HE : Hid (matchErr pat seen win = 11) := HME.out.trans (if_pos hns)
        clear hns
        by_cases hp0 : p < -100000
        · have q1 : decide (p < -100000) = true := decide_eq_true hp0
          clear hr hp0
          go_wp2_with (
            with_reducible refine wpList_storeB (b := rb) (cells := #[.int .i64 0, .int .i64 0, .slice none 0 0]) rfl rfl ?_ ?_ HB.out ?_ ?_ ?_ ?_
            · rfl
            · rfl
            · kernel_rfl
            · rfl
            · simp [Value.oneCell']
            rintro w5 hb5 ho5
            have cR : ∀ i, w5.cell? ⟨rb, i, none⟩ = (#[.int .i64 0, .int .i64 0, .slice none 0 0] : Array Value)[i]? := blk_cell hb5
            have HX5 := Lib.hid (HXR.out.then_only ho5 (fun k (hk : k = rb) => by have := L1.out; omega))
            clear hb5 ho5)
          refine bodyPost_ret (v := .tuple #[.agg #[.int .i64 0, .int .i64 0, .slice none 0 0], .int .i64 11]) (by simp [results, Try.results12, go_sem, cR]) rfl ⟨.inl ⟨11, HE.out.symm, by decide, rfl⟩, HX5.out⟩
        · have q1 : decide (p < -100000) = false := decide_eq_false hp0
          have q2 : decide (200000 < p) = true := decide_eq_true (by omega)
          clear hr hp0
          go_wp2_with (
            with_reducible refine wpList_storeB (b := rb) (cells := #[.int .i64 0, .int .i64 0, .slice none 0 0]) rfl rfl ?_ ?_ HB.out ?_ ?_ ?_ ?_
            · rfl
            · rfl
            · kernel_rfl
            · rfl
            · simp [Value.oneCell']
            rintro w5 hb5 ho5
            have cR : ∀ i, w5.cell? ⟨rb, i, none⟩ = (#[.int .i64 0, .int .i64 0, .slice none 0 0] : Array Value)[i]? := blk_cell hb5
            have HX5 := Lib.hid (HXR.out.then_only ho5 (fun k (hk : k = rb) => by have := L1.out; omega))
            clear hb5 ho5)
          refine bodyPost_ret (v := .tuple #[.agg #[.int .i64 0, .int .i64 0, .slice none 0 0], .int .i64 11]) (by simp [results, Try.results12, go_sem, cR]) rfl ⟨.inl ⟨11, HE.out.symm, by decide, rfl⟩, HX5.out⟩
    · have hok : SeenOk seen := fun j hj => HR.out j hj (by omega)
      have HOK := Lib.hid hok
      have HE : Hid (matchErr pat seen win = 0) := HME.out.trans (if_neg (fun h => h hok))
      clear hok HR
      have hd0 : decide ((k:Int) < (seen.length:Int)) = false := decide_eq_false (by omega)
      go_wp2_with (first
        | (with_reducible refine wpList_alloc (o := ⟨some 9, _, _, _, _, _⟩) rfl rfl Try.zeroValue30 ?_
           rintro bb w4 ⟨hb4, hx4, hl4⟩
           have L4 := Lib.hid (Nat.lt_of_lt_of_le (blk_lt HB.out) hl4)
           have HB4 := Lib.hid hb4
           have HR4 := Lib.hid (hx4.blk HB.out)
           have HX4 := Lib.hid (HXR.out.tr hx4)
           clear hb4 hx4 hl4)
        | (with_reducible refine wpList_storeB (b := bb) (cells := #[.int .i64 0, .int .i64 (-1), .slice none 0 0]) rfl rfl ?_ ?_ HB4.out ?_ ?_ ?_ ?_
           · rfl
           · rfl
           · kernel_rfl
           · rfl
           · simp [Value.oneCell']
           rintro w5 hb5 ho5
           have HI5 : Hid (RfSt w rb bb (cntF pat seen win) 0 w5) := by
             have l1 := L1.out; have l4 := L4.out
             exact ⟨ho5.heap HR4.out (fun (h : rb = bb) => by omega), hb5, HX4.out.then_only ho5 (fun k (hk : k = bb) => by omega)⟩
           clear hb5 ho5))
      go_loopw [10] (fun t wr2 => ∃ k2 : Nat, k2 ≤ 4001 ∧ t = .int .i64 (-2000 + k2) ∧ Hid (RfSt w rb bb (cntF pat seen win) k2 wr2)) (fun t _ => (2001 - intOf t).toNat)
      case atStart => exact ⟨0, by omega, rfl, HI5.out⟩
      case round =>
        obtain ⟨k2, hk2, rfl, HST⟩ := hrel
        obtain ⟨wr2, rfl⟩ : ∃ W, W = wr := ⟨wr, rfl⟩
        obtain ⟨s, hs⟩ : ∃ s, s = -2000 + (k2:Int) := ⟨_, rfl⟩
        rw [← hs]
        have HSE := Lib.hid hs
        have hs1 : -2000 ≤ s := by omega
        by_cases hlt2 : k2 < 4001
        · have hs2 : s ≤ 2000 := by omega
          clear hs
          go_wp2
          go_loopw [11, 12] (fun c t wr3 => ∃ j : Nat, j ≤ pat.length ∧ t = .int .i64 j ∧ c = .int .i64 (cntL ((fitL pat seen win s).take j)) ∧ Hid (∃ n, wr3 = wr2.drewN n)) (fun _ t _ => pat.length - (intOf t).toNat)
          case atStart => exact ⟨0, Nat.zero_le _, rfl, rfl, 0, rfl⟩
          case round =>
            obtain ⟨j, hj, rfl, rfl, HD3⟩ := hrel
            have HST3 : Hid (RfSt w rb bb (cntF pat seen win) k2 wr) := by obtain ⟨n, hn⟩ := HD3.out; rw [hn]; exact HST.out.drewN n
            have HS3 := Lib.hid (HS.out.ext HST3.out.ext)
            by_cases hlt3 : j < pat.length
            · obtain ⟨b1, o1, rfl, hc1⟩ := HP.out.cells (by omega)
              have c1 := HST3.out.ext.cellSome (hc1 j hlt3)
              obtain ⟨p1, p2⟩ := HG.out.bd (List.getElem_mem hlt3)
              have HT := Lib.hid (fitL_take pat seen win s j hlt3)
              obtain ⟨p, hpe⟩ : ∃ p, p = pat[j] := ⟨_, rfl⟩
              rw [← hpe] at c1 p1 p2 HT
              clear hc1 hpe
              have hh : p + s - win + 2 * win = p + s + win := by omega
              rw [hh] at HT
              have HF := Lib.hid (fun n => found_any' seen (.slice as_ seen.length cs) (p + s - win) (p + s + win) (wr.drewN n) (HS3.out.ext (Ext.of_drewN wr n)))
              generalize fnd seen (p + s - win) (p + s + win) = x at HF HT
              clear hh
              have HCN := Lib.hid (cntL_snoc ((fitL pat seen win s).take j) x)
              obtain ⟨n1, n2⟩ := cntL_bd ((fitL pat seen win s).take j)
              have n3 : (((fitL pat seen win s).take j).length : Int) ≤ 1000 := by simp [fitL]; omega
              have E1 := Lib.hid (i64_eq (p + s) (by omega))
              have E2 := Lib.hid (i64_eq (p + s - win) (by omega))
              have E3 := Lib.hid (i64_eq (p + s + win) (by omega))
              have j1 : (0:Int) ≤ (j:Int) := by omega
              have j2 : (j:Int) < (pat.length:Int) := by omega
              by_cases hlost : x = 1000000000
              · have hl1 : (x != 1000000000) = false := by simp [hlost]
                have HL := Lib.hid hlost
                clear hlost
                go_wp2
                have e1 := E1.out
                have e2 := E2.out
                have e3 := E3.out
                go_quiet ((go_at_call 35; exact Calls.quiet_of_same (HF.out _)))
                clear e1 e2 e3
                go_wp2
                go_roundw
                case rel => exact ⟨j + 1, by omega, by go_num, by rw [HT.out, HCN.out, if_pos HL.out, Int.add_zero], by obtain ⟨n, hn⟩ := HD3.out; exact ⟨n + nq, by rw [hn]; exact World.drewN_drewN ..⟩⟩
                case measure => simp [intOf]; omega
              · have hl1 : (x != 1000000000) = true := by simp [hlost]
                have HL := Lib.hid hlost
                clear hlost
                go_wp2
                have e1 := E1.out
                have e2 := E2.out
                have e3 := E3.out
                go_quiet ((go_at_call 35; exact Calls.quiet_of_same (HF.out _)))
                clear e1 e2 e3
                go_wp2
                go_roundw
                case rel => exact ⟨j + 1, by omega, by go_num, by rw [HT.out, HCN.out, if_neg HL.out], by obtain ⟨n, hn⟩ := HD3.out; exact ⟨n + nq, by rw [hn]; exact World.drewN_drewN ..⟩⟩
                case measure => simp [intOf]; omega
            · obtain rfl : j = pat.length := by omega
              have htk : (fitL pat seen win s).take pat.length = fitL pat seen win s := List.take_of_length_le (by simp [fitL])
              rw [htk]
              obtain ⟨fc, hfc⟩ : ∃ fc, fc = cntL (fitL pat seen win s) := ⟨_, rfl⟩
              rw [← hfc]
              have HFC := Lib.hid hfc
              obtain ⟨n1, n2⟩ := cntL_bd (fitL pat seen win s)
              rw [← hfc] at n1 n2
              have n3 : ((fitL pat seen win s).length : Int) ≤ 12 := by simp [fitL]; omega
              obtain ⟨⟨bs, bc⟩, hb⟩ : ∃ b, b = rBest (cntF pat seen win) k2 := ⟨_, rfl⟩
              have HBE := Lib.hid hb
              have hbk := HST3.out.b
              rw [← hb] at hbk
              dsimp only at hbk
              have HBK := Lib.hid hbk
              have cB : ∀ i, wr.cell? ⟨bb, i, none⟩ = (#[.int .i64 bs, .int .i64 bc, .slice none 0 0] : Array Value)[i]? := blk_cell hbk
              obtain ⟨bs1, bs2⟩ := rBest_bd (cntF pat seen win) k2 (by omega)
              rw [← hb] at bs1 bs2
              dsimp only at bs1 bs2
              have hstep : rBest (cntF pat seen win) (k2 + 1) = if rTake (cntF pat seen win) (rBest (cntF pat seen win) k2) s then (s, cntF pat seen win s) else rBest (cntF pat seen win) k2 := by rw [HSE.out]; rfl
              have hfs : cntF pat seen win s = fc := hfc.symm
              rw [hfs, ← hb] at hstep
              have hTK : rTake (cntF pat seen win) (bs, bc) s ↔ (bc < fc ∨ fc = bc ∧ (max s (-s) < max bs (-bs) ∨ max s (-s) = max bs (-bs) ∧ bs < s)) := by unfold rTake; rw [hfs]
              have HSTEP := Lib.hid hstep
              have HTK := Lib.hid hTK
              clear htk hfc hb hbk hstep hfs hTK
              go_wp2
              go_quiet (fail)
              generalize hnr : (if s < -s then -s else s) = nr
              generalize hls : (if bs < -bs then -bs else bs) = ls
              have hnr' : nr = max s (-s) := by rw [← hnr]; split <;> omega
              have hls' : ls = max bs (-bs) := by rw [← hls]; split <;> omega
              clear hnr hls
              have HNR := Lib.hid hnr'
              have HLS := Lib.hid hls'
              clear hnr' hls'
              have HSQ := Lib.hid (HST3.out.drewN nq)
              have HBQ : Hid ((wr.drewN nq).heap[bb]? = some (.cells #[.int .i64 bs, .int .i64 bc, .slice none 0 0] 30 (0, 0))) := HBK.out
              have cQ : ∀ i, (wr.drewN nq).cell? ⟨bb, i, none⟩ = (#[.int .i64 bs, .int .i64 bc, .slice none 0 0] : Array Value)[i]? := cB
              by_cases t1 : bc < fc
              · have f1 : decide (bc < fc) = true := decide_eq_true t1
                have HT := Lib.hid (HSTEP.out.trans (if_pos (HTK.out.2 (.inl t1))))
                clear t1
                go_wp2_with (
                  with_reducible refine wpList_storeB (b := bb) (cells := #[.int .i64 s, .int .i64 fc, .slice none 0 0]) rfl rfl ?_ ?_ HBQ.out ?_ ?_ ?_ ?_
                  · rfl
                  · rfl
                  · kernel_rfl
                  · rfl
                  · simp [Value.oneCell']
                  rintro w9 hb9 ho9
                  have HN : Hid (RfSt w rb bb (cntF pat seen win) (k2 + 1) w9) := ⟨ho9.heap HSQ.out.r (fun (h : rb = bb) => by have := L4.out; omega), by rw [HT.out]; exact hb9, HSQ.out.ext.then_only ho9 (fun k (hk : k = bb) => by have := L1.out; have := L4.out; omega)⟩
                  clear hb9 ho9)
                go_roundw
                case rel => exact ⟨k2 + 1, by omega, congrArg (Value.int .i64) (by have := HSE.out; omega), HN.out⟩
                case measure => simp [intOf]; omega
              have f1 : decide (bc < fc) = false := decide_eq_false t1
              by_cases t2 : fc = bc
              case neg =>
                have f2 : (fc == bc) = false := by simp [t2]
                have HT := Lib.hid (HSTEP.out.trans (if_neg (fun h => (HTK.out.1 h).elim t1 (fun h => t2 h.1))))
                rw [HBE.out] at HT
                clear t1 t2
                go_wp2
                go_roundw
                case rel => exact ⟨k2 + 1, by omega, congrArg (Value.int .i64) (by have := HSE.out; omega), ⟨HSQ.out.r, by rw [HT.out]; exact HSQ.out.b, HSQ.out.ext⟩⟩
                case measure => simp [intOf]; omega
              have f2 : (fc == bc) = true := by simp [t2]
              have T2 := Lib.hid t2
              clear t2
              by_cases t3 : nr < ls
              · have f3 : decide (nr < ls) = true := decide_eq_true t3
                have HT := Lib.hid (HSTEP.out.trans (if_pos (HTK.out.2 (.inr ⟨T2.out, .inl (by rw [← HNR.out, ← HLS.out]; exact t3)⟩))))
                clear t3
                go_wp2_with (
                  with_reducible refine wpList_storeB (b := bb) (cells := #[.int .i64 s, .int .i64 fc, .slice none 0 0]) rfl rfl ?_ ?_ HBQ.out ?_ ?_ ?_ ?_
                  · rfl
                  · rfl
                  · kernel_rfl
                  · rfl
                  · simp [Value.oneCell']
                  rintro w9 hb9 ho9
                  have HN : Hid (RfSt w rb bb (cntF pat seen win) (k2 + 1) w9) := ⟨ho9.heap HSQ.out.r (fun (h : rb = bb) => by have := L4.out; omega), by rw [HT.out]; exact hb9, HSQ.out.ext.then_only ho9 (fun k (hk : k = bb) => by have := L1.out; have := L4.out; omega)⟩
                  clear hb9 ho9)
                go_roundw
                case rel => exact ⟨k2 + 1, by omega, congrArg (Value.int .i64) (by have := HSE.out; omega), HN.out⟩
                case measure => simp [intOf]; omega
              have f3 : decide (nr < ls) = false := decide_eq_false t3
              by_cases t4 : nr = ls
              case neg =>
                have f4 : (nr == ls) = false := by simp [t4]
                have HT := Lib.hid (HSTEP.out.trans (if_neg (fun h => (HTK.out.1 h).elim t1 (fun h => h.2.elim (fun h => t3 (by rw [HNR.out, HLS.out]; exact h)) (fun h => t4 (by rw [HNR.out, HLS.out]; exact h.1))))))
                rw [HBE.out] at HT
                clear t1 t3 t4
                go_wp2
                go_roundw
                case rel => exact ⟨k2 + 1, by omega, congrArg (Value.int .i64) (by have := HSE.out; omega), ⟨HSQ.out.r, by rw [HT.out]; exact HSQ.out.b, HSQ.out.ext⟩⟩
                case measure => simp [intOf]; omega
              have f4 : (nr == ls) = true := by simp [t4]
              have T4 := Lib.hid t4
              clear t4
              by_cases t5 : bs < s
              · have f5 : decide (bs < s) = true := decide_eq_true t5
                have HT := Lib.hid (HSTEP.out.trans (if_pos (HTK.out.2 (.inr ⟨T2.out, .inr ⟨by rw [← HNR.out, ← HLS.out]; exact T4.out, t5⟩⟩))))
                clear t5
                go_wp2_with (
                  with_reducible refine wpList_storeB (b := bb) (cells := #[.int .i64 s, .int .i64 fc, .slice none 0 0]) rfl rfl ?_ ?_ HBQ.out ?_ ?_ ?_ ?_
                  · rfl
                  · rfl
                  · kernel_rfl
                  · rfl
                  · simp [Value.oneCell']
                  rintro w9 hb9 ho9
                  have HN : Hid (RfSt w rb bb (cntF pat seen win) (k2 + 1) w9) := ⟨ho9.heap HSQ.out.r (fun (h : rb = bb) => by have := L4.out; omega), by rw [HT.out]; exact hb9, HSQ.out.ext.then_only ho9 (fun k (hk : k = bb) => by have := L1.out; have := L4.out; omega)⟩
                  clear hb9 ho9)
                go_roundw
                case rel => exact ⟨k2 + 1, by omega, congrArg (Value.int .i64) (by have := HSE.out; omega), HN.out⟩
                case measure => simp [intOf]; omega
              have f5 : decide (bs < s) = false := decide_eq_false t5
              have HT := Lib.hid (HSTEP.out.trans (if_neg (fun h => (HTK.out.1 h).elim t1 (fun h => h.2.elim (fun h => t3 (by rw [HNR.out, HLS.out]; exact h)) (fun h => t5 h.2)))))
              rw [HBE.out] at HT
              clear t1 t3 t5
              go_wp2
              go_roundw
              case rel => exact ⟨k2 + 1, by omega, congrArg (Value.int .i64) (by have := HSE.out; omega), ⟨HSQ.out.r, by rw [HT.out]; exact HSQ.out.b, HSQ.out.ext⟩⟩
              case measure => simp [intOf]; omega
        · obtain rfl : k2 = 4001 := by omega
          obtain ⟨⟨bs, bc⟩, hb⟩ : ∃ b, b = rBest (cntF pat seen win) 4001 := ⟨_, rfl⟩
          obtain ⟨bs1, bs2⟩ := rBest_bd (cntF pat seen win) 4001 (by omega)
          have hbk := HST.out.b
          rw [← hb] at bs1 bs2 hbk
          dsimp only at bs1 bs2 hbk
          have HBE := Lib.hid hb
          have cB0 : ∀ i, wr2.cell? ⟨bb, i, none⟩ = (#[.int .i64 bs, .int .i64 bc, .slice none 0 0] : Array Value)[i]? := blk_cell hbk
          have HEND : Hid (RfEnd w rb bb bs bc (fitL pat seen win bs) 0 (.slice none 0 0) wr2) :=
            ⟨HST.out.r, hbk, World.ownsRow_nil _ _ _ _, HST.out.ext, by simp [Value.ownBlock], by simp [Value.ownBlock]⟩
          have hs2 : ¬ s ≤ 2000 := by omega
          clear hb hbk hs hlt2
          go_wp2
          go_loopw [15] (fun t wr3 => ∃ j : Nat, j ≤ pat.length ∧ t = .int .i64 j ∧ Hid (∃ v, RfEnd w rb bb bs bc (fitL pat seen win bs) j v wr3)) (fun t _ => pat.length - (intOf t).toNat)
          case atStart => exact ⟨0, Nat.zero_le _, rfl, _, HEND.out⟩
          case round =>
            obtain ⟨j, hj, rfl, HV⟩ := hrel
            obtain ⟨v, hv⟩ := HV.out
            have HV1 := Lib.hid hv
            have cB : ∀ i, wr.cell? ⟨bb, i, none⟩ = (#[.int .i64 bs, .int .i64 bc, v] : Array Value)[i]? := blk_cell hv.b
            clear hv
            by_cases hlt3 : j < pat.length
            · obtain ⟨b1, o1, rfl, hc1⟩ := HP.out.cells (by omega)
              have HB1w := Lib.hid (World.block_lt_of_cell? w _ (hc1 j hlt3))
              have c1 := HV1.out.ext.cellSome (hc1 j hlt3)
              obtain ⟨p1, p2⟩ := HG.out.bd (List.getElem_mem hlt3)
              have HT := Lib.hid (fitL_take pat seen win bs j hlt3)
              obtain ⟨p, hpe⟩ : ∃ p, p = pat[j] := ⟨_, rfl⟩
              rw [← hpe] at c1 p1 p2 HT
              clear hc1 hpe
              have hh : p + bs - win + 2 * win = p + bs + win := by omega
              rw [hh] at HT
              have HF := Lib.hid (found_any' seen (.slice as_ seen.length cs) (p + bs - win) (p + bs + win) wr.drew (HS.out.ext (HV1.out.ext.drewN 1)))
              generalize fnd seen (p + bs - win) (p + bs + win) = x at HF HT
              clear hh
              have E1 := Lib.hid (i64_eq (p + bs) (by omega))
              have E2 := Lib.hid (i64_eq (p + bs - win) (by omega))
              have E3 := Lib.hid (i64_eq (p + bs + win) (by omega))
              have j1 : (0:Int) ≤ (j:Int) := by omega
              have j2 : (j:Int) < (pat.length:Int) := by omega
              go_wp2
              have e1 := E1.out
              have e2 := E2.out
              have e3 := E3.out
              have s1 : wr.cell? ⟨bb, 0, none⟩ = some (.int .i64 bs) := by rw [cB]; rfl
              have s2 : wr.cell? ⟨bb, 2, none⟩ = some v := by rw [cB]; rfl
              have s3 : wr.frozen? ⟨bb, 2, none⟩ = false := blk_free HV1.out.b 2
              have hbl := blk_lt HV1.out.b
              have hbn := HV1.out.vb
              have hsz := HV1.out.ext.size
              have B1 := Lib.hid (World.block_lt_of_cell? wr _ c1)
              have B2 : Hid (v.ownBlock ≠ some b1) := fun e => by
                have h8 := (HV1.out.own.lt b1 e).1
                have h9 : b1 < w.heap.size := HB1w.out
                omega
              have HNE : Hid (b1 ≠ bb) := fun e => by
                have h9 : b1 < w.heap.size := HB1w.out
                have := L1.out; have := L4.out
                omega
              obtain ⟨i0, hi0, hp0⟩ := Option.map_eq_some_iff.1 tInts.info
              simp only [Prod.mk.injEq] at hp0
              have HI0 := Lib.hid hi0
              have HP0 := Lib.hid hp0
              clear hi0 hp0
              go_region_held3 (fun wx => wx.cell? ⟨bb, 0, none⟩ = some (.int .i64 bs) ∧ wx.cell? ⟨b1, o1 + j, none⟩ = some (.int .i64 p))
                ((first
                  | (with_reducible exact ⟨k1, k2⟩)
                  | (refine ⟨?_, ?_⟩ <;> (simp only [World.cell?_drew]; with_reducible assumption))
                  | (exact ⟨(World.cell?_setCell_other _ _ _ _ (by simp)).trans k1, (World.cell?_setCell_other _ _ _ _ (fun e => HNE.out (by simp at e; exact e.1.symm))).trans k2⟩)
                  | (go_keep)))
                ((first
                  | (go_at_call 35; refine HF.out.mono ?_; rintro e wz ⟨rfl, rfl⟩)
                  | (refine step_append_lies _ (by rfl) _ _ _ (by rfl) w.heap.size 3 i0 (.int .i64 0) 1 8 tInts.ht HI0.out HP0.out.1 HP0.out.2.1 HP0.out.2.2 rfl (by omega) v j (((fitL pat seen win bs).take j).map (.int .i64)) (by rfl) ((HV1.out.own.alloc _).drew)
                      ⟨wr.heap.size, 0, none⟩ 1 1 [.int .i64 x] (by rfl) (by rfl) (World.news_of_block (cs := #[.int .i64 x]) (t := 3) (fr := (0, 0)) (heap_alloc_new wr _)) (by simp [Value.oneCell'])
                      (by omega) (by unfold maxLen; omega) (by omega) (by simp; omega) (wr.heap.size + 1) (by simp) ?_
                     intro g cap w9 hown9 hgrow hat hlt9
                     have k1 : w9.cell? ⟨bb, 0, none⟩ = some (.int .i64 bs) := (hgrow.cell_far ⟨bb, 0, none⟩ (by simp; omega) (Ne.symm hbn)).trans ((ext_lit wr _ _).cellSome s1)
                     have k2 : w9.cell? ⟨b1, o1 + j, none⟩ = some (.int .i64 p) := (hgrow.cell_far ⟨b1, o1 + j, none⟩ (by simp; have := B1.out; omega) (Ne.symm B2.out)).trans ((ext_lit wr _ _).cellSome c1)
                     have k3 : w9.cell? ⟨bb, 2, none⟩ = some v := (hgrow.cell_far ⟨bb, 2, none⟩ (by simp; omega) (Ne.symm hbn)).trans ((ext_lit wr _ _).cellSome s2)
                     have k4 : w9.frozen? ⟨bb, 2, none⟩ = false := (hgrow.frozen_far ⟨bb, 2, none⟩ (by simp; omega) (Ne.symm hbn)).trans (blk_free ((ext_lit wr _ _).blk HV1.out.b) 2))))
              go_split_ands
              have HOWN9 := Lib.hid hown9
              have HGR := Lib.hid hgrow
              have HAT := Lib.hid hat
              clear e1 e2 e3 hown9 hgrow hat
              go_wp2
              go_roundw
              case rel => exact ⟨j + 1, by omega, by go_num, _, RfEnd.next HV1.out (ext_lit wr _ _).drew (by rw [HT.out, List.map_append]; exact HOWN9.out) HGR.out HAT.out L4.out L1.out⟩
              case measure => simp [intOf]; omega
            · obtain rfl : j = pat.length := by omega
              obtain ⟨m, hm⟩ : ∃ m, pat.length = m + 1 := ⟨pat.length - 1, by omega⟩
              obtain ⟨g, cap, rfl⟩ := ownsRow_succ (hm ▸ HV1.out.own)
              have htk : (fitL pat seen win bs).take pat.length = fitL pat seen win bs := List.take_of_length_le (by simp [fitL])
              have hown := HV1.out.own
              rw [htk] at hown
              have HOWN := Lib.hid hown
              have hbr := HV1.out.vr
              have HVR := Lib.hid hbr
              have HMM := Lib.hid hm
              have HBR := Lib.hid HV1.out.r
              clear htk hown hbr hm
              go_wp2_with (
                with_reducible refine wpList_storeB (b := rb) (cells := #[.int .i64 bs, .int .i64 bc, .slice (some ⟨g, 0, none⟩) (m + 1) cap]) rfl rfl ?_ ?_ HBR.out ?_ ?_ ?_ ?_
                · rfl
                · rfl
                · kernel_rfl
                · rfl
                · simp [Value.oneCell']
                rintro w6 hb6 ho6
                have cR : ∀ i, w6.cell? ⟨rb, i, none⟩ = (#[.int .i64 bs, .int .i64 bc, .slice (some ⟨g, 0, none⟩) (m + 1) cap] : Array Value)[i]? := blk_cell hb6
                have HX6 := Lib.hid (HV1.out.ext.then_only ho6 (fun k (hk : k = rb) => by have := L1.out; omega))
                have HO6 := Lib.hid (owns_only HOWN.out ho6 (fun k hk (e : k = rb) => HVR.out (by rw [hk, e])))
                clear hb6 ho6)
              have hsame : (bs, bc) = bestS (cntF pat seen win) (shs 2001) := by rw [HBE.out]; exact best_same _ (fun s => (cntL_bd _).1)
              refine bodyPost_ret (v := .tuple #[.agg #[.int .i64 bs, .int .i64 bc, .slice (some ⟨g, 0, none⟩) (m + 1) cap], .int .i64 0]) (by simp [results, Try.results12, go_sem, cR]) rfl ⟨.inr ⟨HE.out, .slice (some ⟨g, 0, none⟩) (m + 1) cap, by rw [← hsame], by rw [← hsame]; exact HO6.out⟩, HX6.out⟩
end Go.Proofs.Ytafnadaahnkcmaa
