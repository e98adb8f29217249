/- Worst and Beat. -/
import Derived.Test.YtafnadaahnkcmaaRep
import Derived.Test.YtafnadaahnkcmaaPlay2
import Derived.Test.YtafnadaahnkcmaaKit
namespace Go.Proofs.Ytafnadaahnkcmaa
open Go.RowKit
set_option linter.unusedVariables false

theorem repeat_i (x n : Int) (va : Value) (w : World) (ha : Ints w va [x]) (hn : 1 ≤ n ∧ n ≤ 1000) :
    Calls Try.prog 44 #[va, .int .i64 n] w fun e w' => ∃ a c, e = .returned (.slice a n.toNat c) ∧ Ints w' (.slice a n.toNat c) (List.replicate n.toNat x) ∧ Ext w w' := by
  obtain ⟨m, rfl⟩ := Int.eq_ofNat_of_zero_le (show 0 ≤ n by omega)
  refine (repeat_one x m va w ha (by omega)).mono ?_
  rintro e w' ⟨v, rfl, hi, hx⟩
  obtain ⟨a, c, rfl, hh⟩ := hi.form
  rw [List.length_replicate] at hi ⊢
  exact ⟨a, c, rfl, hi, hx⟩

/-- What Worst's blur reads as. -/
def worstB (b : Int) (n : Nat) : List Int := (-b) :: List.replicate n 0
theorem worstB_len (b : Int) (n : Nat) : (worstB b n).length = n + 1 := by simp [worstB]
theorem worst_cells (b : Int) (n : Nat) : (List.replicate (n + 1) (Value.int .i64 0)).toArray.setIfInBounds 0 (.int .i64 (-b)) = ((worstB b n).map (Value.int .i64)).toArray := by
  apply Array.ext
  · simp [worstB]
  · intro i h1 h2
    rcases i with _ | i
    · simp [worstB]
    · simp [worstB, List.replicate_succ]

theorem Sl.of_blk {w : World} {b : Nat} {cs : List Value} {t : TypeId} {n c : Nat} (h : Blk w b cs.toArray t) (hn : n = cs.length) (hl : cs.length ≤ 9223372036854775807) : Sl w (.slice (some ⟨b, 0, none⟩) n c) cs := by
  subst hn
  refine ⟨hl, _, _, rfl, fun h => (by cases h), fun _ => ⟨b, 0, rfl, fun j u hj => ?_⟩⟩
  rw [h.cell (0 + j)]
  simpa using hj

set_option maxRecDepth 100000 in
set_option maxHeartbeats 1000000 in
theorem worst_ok (l : Loop) (w : World) (h : l.Ok) :
    Calls Try.prog 22 #[l.val] w fun e w' => ∃ a c a' c', e = .returned (.tuple #[.slice a (l.dead + 2).toNat c, .slice a' (l.dead + 2).toNat c', .int .i64 0]) ∧
      Ints w' (.slice a (l.dead + 2).toNat c) (List.replicate (l.dead + 2).toNat l.noise) ∧ Ints w' (.slice a' (l.dead + 2).toNat c') (worstB l.blur (l.dead + 1).toNat) ∧ Ext w w' := by
  obtain ⟨d, n, b, s⟩ := l
  have hv : (⟨d, n, b, s⟩ : Loop).err = 0 := by simp [Loop.err, h]
  have HV := Lib.hid hv
  unfold Loop.Ok at h
  unfold Loop.val
  dsimp only at h ⊢
  obtain ⟨⟨a1, a2⟩, ⟨a3, a4⟩, ⟨a5, a6⟩, a7, a8, a9⟩ := h
  obtain ⟨D, rfl⟩ := Int.eq_ofNat_of_zero_le a1
  obtain ⟨i0, hi0, hp0⟩ := Option.map_eq_some_iff.1 tInts.info
  simp only [Prod.mk.injEq] at hp0
  have E1 : Hid (((D:Int) + 2) = ((D + 2 : Nat) : Int)) := by show _ = _; omega
  have E2 : Hid (((D:Int) + 2).toNat = D + 2) := by show _ = _; omega
  have E3 : Hid (((D:Int) + 1).toNat = D + 1) := by show _ = _; omega
  rw [E2.out, E3.out]
  have HI0 := Lib.hid hi0
  have HP0 := Lib.hid hp0
  clear hi0 hp0
  clear hv
  go_enter Try.func22, Try.ntmps22
  go_upto_region 4 with (first
    | ((with_reducible refine wpList_boxA (cs := #[.int .i64 (D:Int), .int .i64 n, .int .i64 b, .int .i64 s]) rfl rfl rfl ?_); rintro lb w1 hb1 hx1 hl1
       have c1 := hb1.cell
       have HB := Lib.hid hb1
       have HX := Lib.hid hx1
       clear hb1 hx1)
    | (go_at_call 36; refine (check_any ⟨D, n, b, s⟩ _).mono ?_; rintro e w2 ⟨rfl, hx2⟩; rw [HV.out]
       replace HB := Lib.hid (HB.out.ext hx2)
       replace HX := Lib.hid (HX.out.ext hx2)
       have c2 := HB.out.cell
       have HE := Lib.hid hx2
       clear hx2))
  clear c1
  go_upto_region 5 with (
      refine wpList_makeK tInts rfl rfl rfl rfl rfl (by omega) (by omega) ?_
      rintro mb w3 hm3 hx3 hl3
      rw [E2.out] at hm3 ⊢
      have HL := Lib.hid (HB.out.lt)
      have hlw : w.heap.size ≤ mb := Nat.le_trans HX.out.size hl3
      replace HB := Lib.hid (HB.out.ext hx3)
      replace HX := Lib.hid (HX.out.ext hx3)
      have c3 := HB.out.cell
      have HM := Lib.hid hm3
      clear hm3)
  clear c2
  go_wp2_with (first
    | (with_reducible refine wpList_setK (i := 0) (v := .int .i64 (-b)) rfl rfl HM.out ?_ ?_ ?_ ?_ ?_ ?_ ?_
       · rfl
       · rfl
       · simp
       · kernel_rfl
       · rfl
       · rfl
       rintro w4 hm4 ho4
       rw [show D + 2 = (D + 1) + 1 from rfl, worst_cells b (D + 1)] at hm4
       have hne : ¬ lb = mb := by have := HL.out; omega
       have hb4 := HB.out.only ho4 hne
       have hx4 : Ext w w4 := HX.out.then_only ho4 (fun k (hk : k = mb) => by omega)
       have c4 := hb4.cell
       have hlt4 : lb < w4.heap.size := hb4.lt
       clear HB HX
       have HB := Lib.hid hb4
       have HX := Lib.hid hx4
       have HN := Lib.hid hm4
       clear hb4 hx4 hm4
       clear HM ho4)
    | (go_at_call 44
       refine (repeat_i n ((D:Int) + 2) _ _ (Sl.lit1 _ _ _ _) (by omega)).mono ?_
       rintro e w5 ⟨ra, rc, rfl, hi5, hx5⟩
       rw [E2.out] at hi5 ⊢
       have hx5' := (ext_lit _ _ _).tr hx5
       replace HB := Lib.hid (HB.out.ext hx5')
       replace HX := Lib.hid (HX.out.ext hx5')
       replace HN := Lib.hid (HN.out.ext hx5')
       have HI := Lib.hid hi5
       clear hi5))
  go_ret3
  exact ⟨_, _, _, _, rfl, HI.out, Sl.of_blk HN.out (by simp [worstB]) (by simp [worstB]; omega), HX.out⟩

/-- What Beat says of the noise. -/
def beatN (n d e : Int) (us : List Int) : Int := if farL [e + sumL us + n * (d + 1)] < n * (d + 1) then -n else n
theorem beatN_cases (n d e : Int) (us : List Int) : beatN n d e us = n ∨ beatN n d e us = -n := by unfold beatN; split <;> simp
/-- With that noise the error is far. -/
theorem beatN_far (n d e : Int) (us : List Int) (hn : 0 ≤ n) (hd : 0 ≤ d) : (d + 1) * n ≤ max (e + sumL us + beatN n d e us * (d + 1)) (-(e + sumL us + beatN n d e us * (d + 1))) := by
  have h1 : 0 ≤ n * (d + 1) := Int.mul_nonneg hn (by omega)
  rw [Int.mul_comm (d + 1) n]
  unfold beatN
  rw [farL_one]
  split
  · rw [Int.neg_mul]; generalize n * (d + 1) = z at *; omega
  · generalize n * (d + 1) = z at *; omega

set_option maxRecDepth 100000 in
set_option maxHeartbeats 1000000 in
theorem beat_ok (l : Loop) (e : Int) (us : List Int) (vu : Value) (w : World) (h : l.Ok) (he : -1000000 ≤ e ∧ e ≤ 1000000) (hu : Ints w vu us) (hlen : (us.length : Int) = l.dead + 1) (hub : ∀ x ∈ us, -1000000 ≤ x ∧ x ≤ 1000000) :
    Calls Try.prog 23 #[l.val, .int .i64 e, vu] w fun x w' => ∃ a c, x = .returned (.tuple #[.slice a us.length c, .int .i64 0]) ∧
      Ints w' (.slice a us.length c) (List.replicate us.length (beatN l.noise l.dead e us)) ∧ Ext w w' := by
  obtain ⟨d, n, b, s⟩ := l
  have HV := Lib.hid (show (⟨d, n, b, s⟩ : Loop).err = 0 by simp [Loop.err, h])
  unfold Loop.Ok at h
  unfold Loop.val
  dsimp only at h hlen ⊢
  obtain ⟨⟨a1, a2⟩, ⟨a3, a4⟩, ⟨a5, a6⟩, a7, a8, a9⟩ := h
  obtain ⟨e1, e2⟩ := he
  have HB0 := Lib.hid (any_false (xs := [e]) (m := 1000000) (by simp; omega))
  have HB1 := Lib.hid (any_false hub)
  have hsb := fun k hk => sumL_bound us 1000000 (by omega) hub k hk
  have hul := hu.len
  obtain ⟨au, cu, rfl, HU⟩ := hu.form
  have hl1 : ((us.length : Int) == d + 1) = true := by rw [hlen]; simp
  have hl2 : ((us.length : Int) != d + 1) = false := by rw [hlen]; simp
  have HLN := Lib.hid hlen
  have hl4 : us.length ≤ 21 := by omega
  have hm1 : 0 ≤ n * (d + 1) := Int.mul_nonneg (by omega) (by omega)
  have hm2 : n * (d + 1) ≤ 1000 * 21 := Int.mul_le_mul (by omega) (by omega) (by omega) (by omega)
  obtain ⟨nb, hnb⟩ : ∃ nb, n * (d + 1) = nb := ⟨_, rfl⟩
  rw [hnb] at hm1 hm2
  have hw1 : wrap64 (n * (d + 1)) = nb := by rw [hnb]; unfold wrap64; omega
  have hw2 : IntKind.i64.wrap (n * (d + 1)) = nb := by rw [hnb]; exact i64_eq _ (by omega)
  have HNB := Lib.hid hnb
  have HW1 := Lib.hid hw1
  have HW2 := Lib.hid hw2
  have HSB := Lib.hid hsb
  clear hnb hw1 hw2 hsb
  clear hu hlen hub
  go_enter Try.func23, Try.ntmps23
  go_upto_region 8 with (first
    | (with_reducible refine wpList_boxA (cs := #[.int .i64 d, .int .i64 n, .int .i64 b, .int .i64 s]) rfl rfl rfl ?_
       rintro lb w1 hb1 hx1 hl1
       have c1 := hb1.cell
       have HB := Lib.hid hb1
       have HX := Lib.hid hx1
       clear hb1 hx1)
    | (go_at_call 36; refine (check_any ⟨d, n, b, s⟩ _).mono ?_; rintro x w2 ⟨rfl, hx2⟩; rw [HV.out]
       replace HB := Lib.hid (HB.out.ext hx2)
       replace HX := Lib.hid (HX.out.ext hx2)
       have c2 := HB.out.cell
       clear hx2 HV)
    | (have hgd := HB0.out
       go_at_call 37
       refine (beyond_any [e] _ 1000000 _ (Sl.lit1 _ _ _ _) (by omega)).mono ?_
       rintro x w3 ⟨rfl, hx3⟩
       rw [HB0.out]
       have hx3' := (ext_lit _ _ _).tr hx3
       replace HB := Lib.hid (HB.out.ext hx3')
       replace HX := Lib.hid (HX.out.ext hx3')
       have c3 := HB.out.cell
       clear hx3 HB0 hgd)
    | (go_at_call 37
       refine (beyond_any us _ 1000000 _ (HU.out.ext HX.out) (by omega)).mono ?_
       rintro x w4 ⟨rfl, hx4⟩
       rw [HB1.out]
       replace HB := Lib.hid (HB.out.ext hx4)
       replace HX := Lib.hid (HX.out.ext hx4)
       have c4 := HB.out.cell
       clear hx4))
  clear c1 c2 c3
  go_wp2
  go_loop [1, 35] (fun t1 t => ∃ k : Nat, k ≤ us.length ∧ t = .int .i64 k ∧ t1 = .int .i64 (e + sumL (us.take k))) (fun _ t => us.length - (intOf t).toNat)
  case atStart => exact ⟨0, Nat.zero_le _, rfl, by simp [sumL]⟩
  case round =>
    obtain ⟨k, hk, rfl, rfl⟩ := hrel
    obtain ⟨s1, s2⟩ := HSB.out k hk
    by_cases hlt : k < us.length
    · obtain ⟨b1, o1, rfl, hc1⟩ := Ints.cells (xs := us) (HU.out.ext HX.out) (by omega)
      have j1 : (0:Int) ≤ (k:Int) := by omega
      have j2 : (k:Int) < (us.length:Int) := by omega
      have cc := hc1 k hlt
      obtain ⟨s3, s4⟩ := HSB.out (k + 1) hlt
      have hsn := sumL_snoc us k hlt
      obtain ⟨y, hy⟩ : ∃ y, y = us[k] := ⟨_, rfl⟩
      rw [← hy] at cc hsn
      have hy1 : -1000000 * (k + 1) - 1000000 * k ≤ y := by omega
      have hy2 : y ≤ 1000000 * (k + 1) + 1000000 * k := by omega
      have HSN := Lib.hid hsn
      clear hsn
      clear hc1 hy s3 s4
      go_wp2
      go_round
      case rel => exact ⟨k + 1, by omega, by go_num, by rw [HSN.out, Int.add_assoc]⟩
      case measure => simp [intOf]; omega
    · obtain rfl : k = us.length := by omega
      rw [List.take_length] at s1 s2 ⊢
      obtain ⟨E, hE⟩ : ∃ E, e + sumL us = E := ⟨_, rfl⟩
      have hbn : beatN n d e us = if farL [E + nb] < nb then -n else n := by unfold beatN; rw [HNB.out, hE]
      have hb1 : -22000000 ≤ E ∧ E ≤ 22000000 := by omega
      rw [hE]
      obtain ⟨E1, E2⟩ := hb1
      have hfb : ∀ x ∈ [E + nb], -9223372036854775807 ≤ x ∧ x ≤ 9223372036854775807 := by simp; omega
      have HFB := Lib.hid hfb
      have w1' := HW1.out
      have HBN := Lib.hid hbn
      clear hbn
      clear hE s1 s2 hfb
      go_upto_region 14 with (fail)
      have HL4 := Lib.hid HB.out.lt
      have w3' : IntKind.i64.wrap (d + 1) = d + 1 := i64_eq _ (by omega)
      have w2' := HW2.out
      have w4' : IntKind.i64.wrap (E + nb) = E + nb := i64_eq _ (by omega)
      go_region_held3 (fun wr => ∀ i, wr.cell? ⟨lb, i, none⟩ = (#[.int .i64 d, .int .i64 n, .int .i64 b, .int .i64 s] : Array Value)[i]?)
        ((first | (simp only [World.cell?_drew]; with_reducible assumption) | (exact fun i => ((ext_lit w4 _ _).cell (p := ⟨lb, i, none⟩) HL4.out).trans (c4 i))))
        ((first | (
          go_at_call 38
          refine (far_any [E + nb] _ _ ((Sl.lit1 w4 _ 3 1).drew) HFB.out).mono ?_
          rintro x w5 ⟨rfl, rfl⟩)))
      go_split_ands
      clear w1' w2' w3' w4'
      have hx5 : Ext w4 (w4.alloc (Obj.cells #[Value.int .i64 (E + nb)] 3)).drew := (ext_lit w4 _ _).drew
      generalize (w4.alloc (Obj.cells #[Value.int .i64 (E + nb)] 3)).drew = w5 at *
      replace HB := Lib.hid (HB.out.ext hx5)
      replace HX := Lib.hid (HX.out.ext hx5)
      have c5 := HB.out.cell
      have hlt5 := HB.out.lt
      have G5 := Lib.hid hx5
      clear hx5
      clear c4 HL4
      have HBN2 : farL [E + nb] < nb → Hid (beatN n d e us = -n) := fun hh => by rw [HBN.out, if_pos hh]; exact Lib.hid rfl
      have HBN3 : ¬ farL [E + nb] < nb → Hid (beatN n d e us = n) := fun hh => by rw [HBN.out, if_neg hh]; exact Lib.hid rfl
      go_wp2_with fail
      · refine (repeat_i (-n) (d + 1) _ _ (Sl.lit1 _ _ _ _) (by omega)).mono ?_
        rintro x w6 ⟨ra, rc, rfl, hi6, hx6⟩
        have HBB := HBN2 (by assumption)
        have HX6 := Lib.hid ((HX.out.tr (ext_lit _ _ _)).tr hx6)
        have HI := Lib.hid hi6
        clear hi6
        clear HBN2 HBN3 hx6
        go_wp2
        go_ret2
        have ht : (d + 1).toNat = us.length := by have := HLN.out; omega
        have hi := HI.out
        rw [ht] at hi ⊢
        exact ⟨ra, rc, rfl, by rw [HBB.out]; exact hi, HX6.out⟩
      · refine (repeat_i (n) (d + 1) _ _ (Sl.lit1 _ _ _ _) (by omega)).mono ?_
        rintro x w6 ⟨ra, rc, rfl, hi6, hx6⟩
        have HBB := HBN3 (by assumption)
        have HX6 := Lib.hid ((HX.out.tr (ext_lit _ _ _)).tr hx6)
        have HI := Lib.hid hi6
        clear hi6
        clear HBN2 HBN3 hx6
        go_wp2
        go_ret2
        have ht : (d + 1).toNat = us.length := by have := HLN.out; omega
        have hi := HI.out
        rw [ht] at hi ⊢
        exact ⟨ra, rc, rfl, by rw [HBB.out]; exact hi, HX6.out⟩
end Go.Proofs.Ytafnadaahnkcmaa
