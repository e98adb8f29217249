/- BooksClears returns true. -/
import Derived.Test.YtekplfbfkfiabaaPlainMq
import Derived.Test.YtekplfbfkfiabaaPlainFa
import Derived.Test.YtekplfbfkfiabaaBkAwake
import Derived.Deep.CutRange
namespace Go.Proofs.Ytekplfbfkfiabaa
open Go.RowKit Go.Shelf
set_option linter.unusedVariables false
set_option linter.unusedSimpArgs false
attribute [local go_sem] Oper.semAt_some

def balN (ns : List Int) : List Int := ns.map fun x => pick x 201 - 100
theorem balN_len (ns : List Int) : (balN ns).length = ns.length := by simp [balN]
theorem balN_all (ns : List Int) : ∀ u ∈ balN ns, -100 ≤ u ∧ u ≤ 100 := fun u hu => by
  unfold balN at hu
  obtain ⟨x, _, rfl⟩ := List.mem_map.1 hu
  have := pick_pos x 201 (by omega)
  omega
theorem balN_take (ns : List Int) (i : Nat) (hi : i < ns.length) : balN (ns.take (i + 1)) = balN (ns.take i) ++ [pick ns[i] 201 - 100] := by
  unfold balN; rw [List.take_succ_eq_append_getElem hi, List.map_append]; rfl
theorem isum_abs (M : Int) : ∀ xs : List Int, (∀ u ∈ xs, -M ≤ u ∧ u ≤ M) → -(M * xs.length) ≤ isum xs ∧ isum xs ≤ M * xs.length
  | [], _ => by simp [isum]
  | x :: xs, h => by
    have h1 := isum_abs M xs (fun u hu => h u (by simp [hu]))
    have h2 := h x (by simp)
    have h3 : M * ((xs.length + 1 : Nat) : Int) = M * xs.length + M := by push_cast; rw [Int.mul_add, Int.mul_one]
    simp only [isum, List.length_cons]
    omega
def balL (ns : List Int) : List Int := balN ns ++ [-(isum (balN ns))]
theorem balL_len (ns : List Int) : (balL ns).length = ns.length + 1 := by simp [balL, balN_len]
theorem balL_sum (ns : List Int) : isum (balL ns) = 0 := by unfold balL; rw [isum_snoc]; omega
theorem balL_all (ns : List Int) (h : ns.length ≤ 9) : ∀ u ∈ balL ns, -1000 ≤ u ∧ u ≤ 1000 := fun u hu => by
  unfold balL at hu
  have h1 := isum_abs 100 (balN ns) (balN_all ns)
  rw [balN_len] at h1
  rcases List.mem_append.1 hu with h2 | h2
  · have := balN_all ns u h2; omega
  · rw [List.mem_singleton.1 h2]; omega
theorem groupsE_bal (l : List Int) (h1 : l.length ≤ 10) (h2 : ∀ u ∈ l, -1000 ≤ u ∧ u ≤ 1000) (h3 : isum l = 0) : groupsE l = 0 := by
  have hb : badN l = false := by
    unfold badN
    rw [List.any_eq_false]
    intro u hu
    have := (nIn_iff u (-1000000000) 1000000000).2 (by have := h2 u hu; omega)
    simp [this]
  have hs : sumN l = isum l := by
    unfold sumN
    congr 1
    refine (List.map_congr_left fun u hu => ?_).trans (List.map_id l)
    have := (nIn_iff u (-1000000000) 1000000000).2 (by have := h2 u hu; omega)
    unfold inN
    rw [this]; rfl
  unfold groupsE
  rw [if_neg (by omega), hb, if_neg (by decide), hs, if_neg (fun h => h h3)]
/-- How many of the first ones are not at 0. -/
def nzs : List Int → Nat
  | [] => 0
  | x :: xs => (if x = 0 then 0 else 1) + nzs xs
theorem nzs_snoc (xs : List Int) (x : Int) : nzs (xs ++ [x]) = nzs xs + if x = 0 then 0 else 1 := by
  induction xs with
  | nil => simp [nzs]
  | cons y ys ih => simp only [List.cons_append, nzs, ih]; omega
theorem nzs_take (xs : List Int) (k : Nat) (hk : k < xs.length) : nzs (xs.take (k + 1)) = nzs (xs.take k) + if xs[k] = 0 then 0 else 1 := by
  rw [List.take_succ_eq_append_getElem hk, nzs_snoc]
theorem nzs_le : ∀ xs : List Int, nzs xs ≤ xs.length
  | [] => Nat.le_refl _
  | x :: xs => by have := nzs_le xs; simp only [nzs, List.length_cons]; split <;> omega
def gsum (G l : List Int) (c : Int) (k : Nat) : Int := isum ((List.range k).map fun i => if gI G i = c then gI l i else 0)
theorem gsum_succ (G l : List Int) (c : Int) (k : Nat) : gsum G l c (k + 1) = gsum G l c k + if gI G k = c then gI l k else 0 := by
  unfold gsum; rw [List.range_succ, List.map_append, List.map_singleton, isum_snoc]
theorem gsum_abs (G l : List Int) (c : Int) (hl : ∀ i, -1000 ≤ gI l i ∧ gI l i ≤ 1000) (k : Nat) : -(1000 * (k : Int)) ≤ gsum G l c k ∧ gsum G l c k ≤ 1000 * k := by
  have h := isum_abs 1000 ((List.range k).map fun i => if gI G i = c then gI l i else 0) (fun u hu => by
    obtain ⟨i, _, rfl⟩ := List.mem_map.1 hu
    have := hl i
    split <;> omega)
  rw [List.length_map, List.length_range] at h
  exact h
theorem payC_len (x : PayD) : (payC x).length = 3 := rfl
theorem gI_abs {l : List Int} (h : ∀ u ∈ l, -1000 ≤ u ∧ u ≤ 1000) (i : Nat) : -1000 ≤ gI l i ∧ gI l i ≤ 1000 := by
  unfold gI
  rw [List.getD_eq_getElem?_getD]
  cases hg : l[i]? with
  | none => simp
  | some y => exact h y (List.mem_of_getElem? hg)
theorem tdiv7 {x : Int} (h : I64 x) : I64 (x.tdiv 7) := by
  unfold I64 at *
  rcases Int.le_total 0 x with h0 | h0
  · rw [Int.tdiv_eq_ediv_of_nonneg h0]; omega
  · have e : x.tdiv 7 = -((-x).tdiv 7) := by rw [Int.neg_tdiv, Int.neg_neg]
    rw [e, Int.tdiv_eq_ediv_of_nonneg (by omega)]; omega
/-- Two rows of numbers side by side. -/
structure RR2 (B : Nat) (W : World) (v1 v2 : Value) (xs ys : List Int) : Prop where
  o1 : W.ownsRow B 3 1 v1 xs.length (xs.map (.int .i64))
  o2 : W.ownsRow B 3 1 v2 ys.length (ys.map (.int .i64))
  ne : ∀ b, v1.ownBlock = some b → v2.ownBlock ≠ some b
section
variable {B : Nat} {W W' : World} {v1 v2 v' : Value} {xs ys : List Int} {x : Int}
theorem RR2.ext (h : RR2 B W v1 v2 xs ys) (k : Ext W W') : RR2 B W' v1 v2 xs ys := ⟨owns_ext h.o1 k, owns_ext h.o2 k, h.ne⟩
theorem RR2.app1 (h : RR2 B W v1 v2 xs ys) (h1 : W'.ownsRow B 3 1 v' (xs.length + 1) (xs.map (.int .i64) ++ [.int .i64 x])) (hg : W.grownBy W' v1.ownBlock) (hf : FreshOr W v1 v') : RR2 B W' v' v2 (xs ++ [x]) ys := by
  refine ⟨by rw [List.length_append, List.map_append]; exact h1, owns_only h.o2 (only_grown hg) (fun b hb e => h.ne b e hb), fun b hb hb2 => ?_⟩
  rcases hf with hf | ⟨g, hg2, hl⟩
  · exact h.ne b (hf ▸ hb) hb2
  · rw [hg2] at hb; cases hb
    have := (h.o2.lt _ hb2).2
    omega
theorem RR2.app2 (h : RR2 B W v1 v2 xs ys) (h1 : W'.ownsRow B 3 1 v' (ys.length + 1) (ys.map (.int .i64) ++ [.int .i64 x])) (hg : W.grownBy W' v2.ownBlock) (hf : FreshOr W v2 v') : RR2 B W' v1 v' xs (ys ++ [x]) := by
  refine ⟨owns_only h.o1 (only_grown hg) (fun b hb e => h.ne b hb e), by rw [List.length_append, List.map_append]; exact h1, fun b hb hb2 => ?_⟩
  rcases hf with hf | ⟨g, hg2, hl⟩
  · exact h.ne b hb (hf ▸ hb2)
  · rw [hg2] at hb2; cases hb2
    have := (h.o1.lt _ hb).2
    omega
end
def oweI (v : List Int) (j : Nat) : List Int := ((List.range j).filter fun k => gI v k < 0).map fun (k : Nat) => (k : Int)
def owdI (v : List Int) (j : Nat) : List Int := ((List.range j).filter fun k => 0 < gI v k).map fun (k : Nat) => (k : Int)
theorem oweI_succ (v : List Int) (j : Nat) : oweI v (j + 1) = if gI v j < 0 then oweI v j ++ [(j : Int)] else oweI v j := by
  unfold oweI; rw [List.range_succ, List.filter_append, List.map_append]
  by_cases h : gI v j < 0
  · simp [h]
  · simp [h]
theorem owdI_succ (v : List Int) (j : Nat) : owdI v (j + 1) = if 0 < gI v j then owdI v j ++ [(j : Int)] else owdI v j := by
  unfold owdI; rw [List.range_succ, List.filter_append, List.map_append]
  by_cases h : 0 < gI v j
  · simp [h]
  · simp [h]
theorem oweI_mem {v : List Int} {j : Nat} {x : Int} (h : x ∈ oweI v j) : ∃ k : Nat, k < j ∧ x = k ∧ gI v k < 0 := by
  unfold oweI at h
  obtain ⟨k, hk, rfl⟩ := List.mem_map.1 h
  obtain ⟨h1, h2⟩ := List.mem_filter.1 hk
  exact ⟨k, List.mem_range.1 h1, rfl, by simpa using h2⟩
theorem owdI_mem {v : List Int} {j : Nat} {x : Int} (h : x ∈ owdI v j) : ∃ k : Nat, k < j ∧ x = k ∧ 0 < gI v k := by
  unfold owdI at h
  obtain ⟨k, hk, rfl⟩ := List.mem_map.1 h
  obtain ⟨h1, h2⟩ := List.mem_filter.1 hk
  exact ⟨k, List.mem_range.1 h1, rfl, by simpa using h2⟩
theorem oweI_len (v : List Int) (j : Nat) : (oweI v j).length ≤ j := by
  unfold oweI
  rw [List.length_map]
  refine Nat.le_trans (List.length_filter_le _ _) (by simp)
theorem owdI_len (v : List Int) (j : Nat) : (owdI v j).length ≤ j := by
  unfold owdI
  rw [List.length_map]
  refine Nat.le_trans (List.length_filter_le _ _) (by simp)
theorem oweI_nil {v : List Int} (h : (oweI v v.length).length = 0) (hz : isum v = 0) : ∀ k, k < v.length → gI v k = 0 := by
  have h0 : oweI v v.length = [] := List.eq_nil_of_length_eq_zero h
  have hf := sumB_full v
  rw [hz] at hf
  have h1 := sumB_all0 (v := v) (B := 2 ^ v.length - 1) (fun i hi _ => by
    have h2 : (i : Int) ∉ oweI v v.length := by rw [h0]; exact List.not_mem_nil
    have h3 : ¬ gI v i < 0 := fun h4 => h2 (by unfold oweI; exact List.mem_map.2 ⟨i, List.mem_filter.2 ⟨List.mem_range.2 hi, by simpa using h4⟩, rfl⟩)
    omega) hf
  exact fun k hk => h1 k hk (by rw [full_bit]; simpa using hk)
theorem owdI_nil {v : List Int} (h : (owdI v v.length).length = 0) (hz : isum v = 0) : ∀ k, k < v.length → gI v k = 0 := by
  have h0 : owdI v v.length = [] := List.eq_nil_of_length_eq_zero h
  have hf := sumB_full v
  rw [hz] at hf
  have h1 := sumB_all0' (v := v) (B := 2 ^ v.length - 1) (fun i hi _ => by
    have h2 : (i : Int) ∉ owdI v v.length := by rw [h0]; exact List.not_mem_nil
    have h3 : ¬ 0 < gI v i := fun h4 => h2 (by unfold owdI; exact List.mem_map.2 ⟨i, List.mem_filter.2 ⟨List.mem_range.2 hi, by simpa using h4⟩, rfl⟩)
    omega) hf
  exact fun k hk => h1 k hk (by rw [full_bit]; simpa using hk)
/-- A payment between two parties. -/
theorem way_step {l v : List Int} {c : Int} {a b : Nat} {n : Nat} (hp : PInv l c v) (hvl : v.length = n) (hz : isum v = 0) (ha : a < n) (hb : b < n) (h1 : gI v a < 0) (h2 : 0 < gI v b) {p x y : Int} (hpm : p = min (-(gI v a)) (gI v b)) (hx : x = gI v a + p) (hy : y = gI v b - p) (hc : cnt v (2 ^ n - 1) + c ≤ n) :
    PInv l (c + 1) ((v.set a x).set b y) ∧ isum ((v.set a x).set b y) = 0 ∧ cnt ((v.set a x).set b y) (2 ^ n - 1) + (c + 1) ≤ n ∧ c + 2 ≤ n := by
  subst hvl
  have hab : a ≠ b := fun e => by subst e; omega
  have hgb : gI (v.set a x) b = gI v b := by rw [gI_setN _ _ _ _ ha, if_neg (show ¬ b = a from fun e => hab e.symm)]
  have fa : (2 ^ v.length - 1).testBit a = true := by rw [full_bit]; simpa using ha
  have fb : (2 ^ v.length - 1).testBit b = true := by rw [full_bit]; simpa using hb
  have hb' : b < (v.set a x).length := by simpa using hb
  have hc2 : 2 ≤ cnt v (2 ^ v.length - 1) := by
    have h3 := cnt_nn ((v.set a 0).set b 0) (2 ^ v.length - 1)
    rw [cnt_set _ _ _ (by simpa using hb) fb, cnt_set _ _ _ ha fa, gI_setN _ _ _ _ ha, if_neg (show ¬ b = a from fun e => hab e.symm), if_neg (show ¬ gI v a = 0 by omega), if_neg (show ¬ gI v b = 0 by omega)] at h3
    simp at h3; omega
  refine ⟨hp.pay ha hb hab (by omega), ?_, ?_, by omega⟩
  · rw [isum_set _ _ _ hb', ← gI_get hb', hgb, isum_set _ _ _ ha, ← gI_get ha]; omega
  · rw [cnt_set _ _ _ hb' fb, cnt_set _ _ _ ha fa, hgb, if_neg (show ¬ gI v a = 0 by omega), if_neg (show ¬ gI v b = 0 by omega)]
    have hpp : p = -(gI v a) ∨ p = gI v b := by omega
    rcases hpp with h | h
    · rw [if_pos (show x = 0 by omega)]; split <;> omega
    · rw [if_pos (show y = 0 by omega)]; split <;> omega
set_option maxRecDepth 100000 in
set_option maxHeartbeats 4000000 in
theorem clears_true (ns ys : List Int) (va vb : Value) (w : World) (ha : Ints w va ns) (hb : Ints w vb ys) (hns : ∀ x ∈ ns, I64 x) (hys : ∀ x ∈ ys, I64 x) :
    Calls Try.prog 5 #[va, vb] w fun e w' => e = .returned (.bool true) ∧ Ext w w' := by
  have hp : ∀ e w', e = Ending.returned (.bool true) ∧ Ext w w' → e = Ending.returned (.bool true) ∧ Ext w w' := fun _ _ h => h
  have hal := ha.len
  have hbl := hb.len
  obtain ⟨aa, ca, rfl, HA⟩ := ha.form
  obtain ⟨ab, cb, rfl, HB⟩ := hb.form
  clear ha hb
  have HP := Lib.hid hp
  clear hp
  by_cases q1 : 1 ≤ ns.length ∧ ns.length ≤ 9
  · obtain ⟨q1a, q1b⟩ := q1
    have i1 : ¬ ((ns.length : Int) < 1) := by omega
    have i2 : (ns.length : Int) ≤ 9 := by omega
    have HNS := Lib.hid hns
    have HYS := Lib.hid hys
    clear hns hys
    go_enter Try.func5, Try.ntmps5
    go_upto_region 6 with (fail)
    go_loopw [5, 6, 7] (fun v s t wr => ∃ i : Nat, i ≤ ns.length ∧ t = .int .i64 i ∧ s = .int .i64 (isum (balN (ns.take i))) ∧ Hid (wr.ownsRow w.heap.size 3 1 v i ((balN (ns.take i)).map (.int .i64))) ∧ Hid (Ext w wr)) (fun _ _ t _ => ns.length - (intOf t).toNat)
    case atStart => exact ⟨0, Nat.zero_le _, rfl, rfl, World.ownsRow_nil _ _ _ _, Below.refl _ _⟩
    case round =>
      obtain ⟨i, hi, rfl, rfl, HV, X⟩ := hrel
      obtain ⟨av, cv, rfl⟩ := row_form HV.out
      have hsr := isum_abs 100 (balN (ns.take i)) (balN_all _)
      rw [balN_len, List.length_take, Nat.min_eq_left hi] at hsr
      by_cases hlt : i < ns.length
      · --[
        as_aux_lemma =>
          obtain ⟨b, o, rfl, hc⟩ := HA.out.cells (by omega)
          have e0 := X.out.cellSome (hc i hlt)
          have htk := balN_take ns i hlt
          have hpk := fun W => pick_any ns[i] 201 W (HNS.out _ (List.getElem_mem hlt)) (by unfold I64; omega)
          have hpr := pick_pos ns[i] 201 (by omega)
          obtain ⟨x, hx⟩ : ∃ x, x = ns[i] := ⟨_, rfl⟩
          rw [← hx] at e0 htk hpk hpr
          obtain ⟨u, hu⟩ : ∃ u, u = pick x 201 := ⟨_, rfl⟩
          rw [← hu] at htk hpk hpr
          have hsum : isum (balN (ns.take (i + 1))) = isum (balN (ns.take i)) + (u - 100) := by rw [htk, isum_snoc]
          obtain ⟨ws, hws⟩ : ∃ ws, ws = balN (ns.take i) := ⟨_, rfl⟩
          have hwl : ws.length = i := by rw [hws, balN_len, List.length_take]; omega
          rw [← hws] at htk hsr HV hsum ⊢
          obtain ⟨sm, hsm⟩ : ∃ sm, sm = isum ws := ⟨_, rfl⟩
          rw [← hsm] at hsr hsum ⊢
          obtain ⟨u1, u2⟩ := hpr
          obtain ⟨s1, s2⟩ := hsr
          have j1 : (0:Int) ≤ (i:Int) := by omega
          have j2 : (i:Int) < (ns.length:Int) := by omega
          have HPK := Lib.hid hpk
          have HTK := Lib.hid htk
          have HSUM := Lib.hid hsum
          have HWL := Lib.hid hwl
          clear hpk htk hsum hwl
          clear hc hx hu hws hsm
          go_upto_region 9 with (first
            | (go_at_call 24
               refine (HPK.out _).mono ?_
               rintro e w6 ⟨rfl, rfl⟩)
            | (at_builtin
               refine wpList_app tInts rfl rfl rfl (owns_ext HV.out (ext_lit _ _ _)) rfl (Src.lit _ [.int .i64 (u - 100)] 1 1 rfl 3 1) (by simp [Value.oneCell']) (by omega) (Nat.le_trans X.out.size (by simp)) ?_
               rintro v' w8 q1 q2 q3
               have hx8 := ext_grown (X.out.tr (ext_lit _ _ _)) (owns_ext HV.out (ext_lit _ _ _)) q2
               have hv8 : w8.ownsRow w.heap.size 3 1 v' (i + 1) ((balN (ns.take (i + 1))).map (.int .i64)) := by rw [HTK.out, List.map_append]; exact q1
               clear HV X q1 q2 q3
               have HV := Lib.hid hv8
               have X := Lib.hid hx8
               clear hv8 hx8))
          clear e0
          obtain ⟨av2, cv2, rfl⟩ := row_form HV.out
          have hin : Ints w8 (.slice av2 (i + 1) cv2) (balN (ns.take (i + 1))) := Sl.of_owns HV.out
          have hwl2 : (balN (ns.take (i + 1))).length = i + 1 := by rw [HTK.out, List.length_append, HWL.out]; rfl
          obtain ⟨b2, o2, rfl, hc2⟩ := Ints.cells hin (by omega)
          have e1 := hc2 i (by omega)
          have hlast : (balN (ns.take (i + 1)))[i]'(by omega) = u - 100 := by
            have h1 : (balN (ns.take (i + 1)))[i]? = some (u - 100) := by rw [HTK.out, List.getElem?_append_right (by rw [HWL.out]; exact Nat.le_refl _), HWL.out, Nat.sub_self]; rfl
            rw [List.getElem?_eq_getElem (by omega)] at h1
            exact Option.some.inj h1
          rw [hlast] at e1
          have j3 : (i:Int) < (i:Int) + 1 := by omega
          clear hc2 hlast hin hwl2
          go_wp2
          go_roundw
          case rel => exact ⟨i + 1, by omega, by go_num, by rw [HSUM.out], HV, X⟩
          case measure => simp [intOf]; omega
      · obtain rfl : i = ns.length := by omega
        clear hlt
        rw [List.take_length] at hsr HV ⊢
        obtain ⟨sm, hsm⟩ : ∃ sm, sm = isum (balN ns) := ⟨_, rfl⟩
        have hBL : (balL ns) = balN ns ++ [-sm] := by rw [hsm]; rfl
        rw [← hsm] at hsr ⊢
        obtain ⟨s1, s2⟩ := hsr
        have hll := balL_len ns
        have hls := balL_sum ns
        have hla := balL_all ns q1b
        obtain ⟨l, hle⟩ : ∃ l, l = balL ns := ⟨_, rfl⟩
        rw [← hle] at hBL hll hls hla
        have HBL := Lib.hid hBL
        have hE := groupsE_bal l (by omega) hla hls
        obtain ⟨G, ps, m, CO⟩ := clear_ok (l := l) (by omega) hls
        have hcoL := CO.len
        have HLS := Lib.hid hls
        have HLA := Lib.hid hla
        have HC := Lib.hid CO
        have HE := Lib.hid hE
        have HGL := Lib.hid hcoL
        clear hls hla CO hE hcoL
        clear hsm hBL hle
        go_upto_region 11 with (
          at_builtin
          refine wpList_app tInts rfl rfl rfl (owns_ext HV.out (ext_lit _ _ _)) rfl (Src.lit _ [.int .i64 (-sm)] 1 1 rfl 3 1) (by simp [Value.oneCell']) (by omega) (Nat.le_trans X.out.size (by simp)) ?_
          rintro v' w8 q1 q2 q3
          have hx8 := ext_grown (X.out.tr (ext_lit _ _ _)) (owns_ext HV.out (ext_lit _ _ _)) q2
          have hv8 : w8.ownsRow w.heap.size 3 1 v' (ns.length + 1) (l.map (.int .i64)) := by rw [HBL.out, List.map_append]; exact q1
          clear HV X q1 q2 q3
          have HV := Lib.hid hv8
          have X := Lib.hid hx8
          clear hv8 hx8)
        clear s1 s2
        obtain ⟨n, hn⟩ : ∃ n, n = ns.length + 1 := ⟨_, rfl⟩
        rw [← hn] at HV hll
        obtain ⟨lb, lc, rfl, hlb, hlr⟩ : ∃ pl cap, v' = .slice (some ⟨pl, 0, none⟩) n cap ∧ w.heap.size ≤ pl ∧ RowI w8 pl l := by
          have h := HV.out
          rw [← hll] at h
          have := RowI.of_owns h (by omega)
          rw [hll] at this
          exact this
        have hn1 : 2 ≤ n := by omega
        have hn2 : n ≤ 10 := by omega
        have HLL := Lib.hid hll
        have HLB := Lib.hid hlb
        clear hn HV hll hi q1a q1b i1 i2 HBL hal HA
        have hgr := fun W (h : Ints W (.slice (some ⟨lb, 0, none⟩) n lc) l) => groups_any l _ W h (fun u hu => by have := HLA.out u hu; unfold I64; omega) (by rw [HLL.out]; omega) (by rw [HLL.out]; omega) (fun _ => by rw [HC.out.grp]; rfl)
        have hcr := fun W (h : Ints W (.slice (some ⟨lb, 0, none⟩) n lc) l) => clear_any l _ W h (fun u hu => by have := HLA.out u hu; unfold I64; omega) (by rw [HLL.out]; omega) (by rw [HLL.out]; omega) (fun _ => ⟨G, ps, HC.out.grp, HC.out.clr⟩)
        have HGP : Hid (∀ W e W', GroupsPost W l e W' → ∃ g, e = .returned (.tuple #[.slice (some ⟨g, 0, none⟩) n n, .int .i64 0]) ∧ W.heap.size ≤ g ∧ Blk W' g (iA G) 3 ∧ Ext W W') := fun W e W' ⟨v, h1, h2, h3⟩ => by
          rw [HE.out] at h1 h3
          rcases h3 with ⟨h3, _⟩ | ⟨_, g, o, h4, h5, h6, h7, h8⟩
          · exact absurd rfl h3
          · rw [HC.out.grp] at h6; cases h6
            rw [HLL.out] at h4
            exact ⟨g, by rw [h1, h4], h5, h8, h2⟩
        have HCP : Hid (∀ W e W', ClearPost W l e W' → ∃ a c, e = .returned (.tuple #[.slice a ps.length c, .int .i64 0]) ∧ W'.ownsRow W.heap.size 41 3 (.slice a ps.length c) ps.length (ps.flatMap payC) ∧ Ext W W') := fun W e W' ⟨v, h1, h2, h3⟩ => by
          rw [HE.out] at h1 h3
          rcases h3 with ⟨h3, _⟩ | ⟨_, G', o, h4, h5, h6, h7⟩
          · exact absurd rfl h3
          · rw [HC.out.grp] at h4; cases h4
            rw [HC.out.clr] at h5; cases h5
            obtain ⟨a, c, rfl⟩ := row_form h7
            exact ⟨a, c, h1, h7, h2⟩
        have hpl : ps.length ≤ n := by have := HC.out.num; have := HLL.out; omega
        have HGR := Lib.hid hgr
        have HCR := Lib.hid hcr
        have LR := Lib.hid hlr
        clear hgr hcr hlr
        go_upto_region 15 with (first
          | (go_at_call 19
             refine (HGR.out _ (by have h := LR.out.ints lc (by rw [HLL.out]; omega); rw [HLL.out] at h; exact h)).mono ?_
             rintro e w9 hh
             obtain ⟨gb, rfl, hgb, hgr9, hx9⟩ := HGP.out _ e w9 hh
             have ngl := Nat.lt_of_lt_of_le LR.out.lt hgb
             have hgw := Nat.le_trans X.out.size hgb
             replace X := Lib.hid (X.out.ext hx9)
             replace LR := Lib.hid (LR.out.ext hx9)
             clear hh hgb hx9
             have GR := Lib.hid hgr9
             have NGL := Lib.hid ngl
             have HGW := Lib.hid hgw
             clear hgr9 ngl hgw)
          | (go_at_call 21
             refine (HCR.out _ (by have h := LR.out.ints lc (by rw [HLL.out]; omega); rw [HLL.out] at h; exact h)).mono ?_
             rintro e w10 hh
             obtain ⟨pa, pc, rfl, hpr, hx10⟩ := HCP.out _ e w10 hh
             have hpf : ∀ b, (Value.slice pa ps.length pc).ownBlock = some b → w9.heap.size ≤ b := fun b hb => (hpr.lt b hb).1
             have hls9 := LR.out.lt
             have hgs9 := GR.out.lt
             replace X := Lib.hid (X.out.ext hx10)
             replace LR := Lib.hid (LR.out.ext hx10)
             replace GR := Lib.hid (GR.out.ext hx10)
             clear hh hx10
             have PR := Lib.hid hpr
             have PF := Lib.hid hpf
             have LS9 := Lib.hid hls9
             have GS9 := Lib.hid hgs9
             clear hpr hpf hls9 hgs9))
        clear HGR HCR HGP HCP
        have hpin : StIn 3 payC w10 (.slice pa ps.length pc) ps := StIn.of_owns payC_len PR.out (by omega)
        have hla2 := fun i => gI_abs HLA.out i
        have PIN := Lib.hid hpin
        have LAB := Lib.hid hla2
        clear hpin hla2
        clear PR
        go_upto_region 18 with (
          with_reducible refine wpList_makeI rfl rfl (n := n) rfl rfl (by omega) ?_
          rintro sb w11 hb11 hx11 hl11
          have hls : lb < sb ∧ gb < sb := ⟨Nat.lt_of_lt_of_le LR.out.lt hl11, Nat.lt_of_lt_of_le GR.out.lt hl11⟩
          have hsb : w10.heap.size ≤ sb := hl11
          have SB := Lib.hid hb11
          have Y := Lib.hid hx11
          have NSB := Lib.hid hls
          have LSB := Lib.hid hsb
          clear hb11 hx11 hls hsb
          clear hl11)
        have hg0 : ∀ c, c < n → gI (List.replicate n (0:Int)) c = gsum G l (c : Int) 0 := fun c hc => by
          rw [gI_get (by simpa using hc)]; simp [gsum, isum]
        have HG0 := Lib.hid hg0
        clear hg0
        go_loopw [12, 13, 15] (fun a b t wr => ∃ (i mm : Nat) (sm : List Int), i ≤ n ∧ t = .int .i64 i ∧ a = .int .i64 mm ∧ b = .int .i64 (nzs (l.take i) : Nat) ∧ mm ≤ i ∧ Hid ((∀ i', i' < i → gI G i' < mm) ∧ (∀ j : Nat, j < mm → ∃ i', i' < i ∧ gI G i' = j)) ∧ Hid (sm.length = n ∧ ∀ c, c < n → gI sm c = gsum G l (c : Int) i) ∧ Hid (Blk wr sb (iA sm) 3) ∧ Hid (Ext w10 wr)) (fun _ _ t _ => n - (intOf t).toNat)
        case atStart => exact ⟨0, 0, List.replicate n 0, Nat.zero_le _, rfl, rfl, rfl, Nat.le_refl _, ⟨fun i' h => absurd h (Nat.not_lt_zero _), fun j h => absurd h (Nat.not_lt_zero _)⟩, ⟨by simp, HG0.out⟩, SB.out, Y.out⟩
        case round =>
          clear SB Y HG0
          obtain ⟨i, mm, sm, hi, rfl, rfl, rfl, hmi, HM, HS, SB, Y⟩ := hrel
          by_cases hlt : i < n
          · --[
            as_aux_lemma =>
              have hil : i < l.length := by rw [HLL.out]; exact hlt
              have hiG : i < G.length := by rw [HGL.out]; exact hil
              obtain ⟨r1, r2, r3⟩ := HC.out.rgs i hil
              have hmn : m ≤ n := by have := HC.out.num; have := HLL.out; omega
              obtain ⟨q, hq⟩ := Int.eq_ofNat_of_zero_le r1
              rw [hq] at r2 r3
              have hqm : q ≤ mm := by
                rcases Nat.lt_or_ge mm q with h | h
                · obtain ⟨i', h1, h2⟩ := r3 mm (by omega)
                  have := HM.out.1 i' h1
                  omega
                · exact h
              have e1 := Y.out.cellSome (GR.out.int hiG)
              have e2 := Y.out.cellSome (LR.out.cell hil)
              rw [hq] at e1
              have hqn : q < n := by omega
              have e3 := SB.out.int (i := q) (by rw [HS.out.1]; exact hqn)
              have hnz := nzs_take l i hil
              rw [← gI_get hil] at hnz
              have hli := LAB.out i
              have hgs : ∀ c, c < n → gI sm c = gsum G l (c : Int) i := HS.out.2
              have hgb := gsum_abs G l (q : Int) LAB.out i
              rw [← hgs q hqn] at hgb
              obtain ⟨sq, hsq⟩ : ∃ y, y = gI sm q := ⟨_, rfl⟩
              obtain ⟨li, hlie⟩ : ∃ y, y = gI l i := ⟨_, rfl⟩
              rw [← hsq] at e3 hgb
              rw [← hlie] at e2 hnz hli
              obtain ⟨sx, hsx⟩ : ∃ y, y = sq + li := ⟨_, rfl⟩
              have kw : IntKind.i64.wrap (sq + li) = sx := by rw [hsx]; exact i64_eq _ ⟨by omega, by omega⟩
              have hns : ∀ c, c < n → gI (sm.set q sx) c = gsum G l (c : Int) (i + 1) := fun c hc => by
                rw [gI_setN _ _ _ _ (by rw [HS.out.1]; exact hqn), gsum_succ, hq, ← hlie, ← hgs c hc]
                by_cases h : c = q
                · subst h; rw [if_pos rfl, if_pos rfl, hsx, hsq]
                · rw [if_neg h, if_neg (by omega)]; omega
              obtain ⟨pz, hpz⟩ : ∃ y, y = nzs (l.take i) := ⟨_, rfl⟩
              have hpzl : pz ≤ 10 := by rw [hpz]; have := nzs_le (l.take i); rw [List.length_take] at this; omega
              rw [← hpz] at hnz ⊢
              have j1 : (0:Int) ≤ (i:Int) := by omega
              have j2 : (i:Int) < (n:Int) := by omega
              have j3 : (0:Int) ≤ (q:Int) := by omega
              have j4 : (q:Int) < (n:Int) := by omega
              have j5 : ¬ ((q:Int) < 0) := by omega
              have j6 : ¬ ((mm:Int) < (q:Int)) := by omega
              have j7 : ¬ ((n:Int) ≤ (q:Int)) := by omega
              have j8 : ¬ (mm < q) := by omega
              have j9 : ¬ (n ≤ q) := by omega
              obtain ⟨m2, hm2⟩ : ∃ y, y = if q = mm then mm + 1 else mm := ⟨_, rfl⟩
              have HM2 : Hid ((∀ i', i' < i + 1 → gI G i' < m2) ∧ (∀ j : Nat, j < m2 → ∃ i', i' < i + 1 ∧ gI G i' = j)) := by
                obtain ⟨a1, a2⟩ := HM.out
                refine ⟨fun i' hi' => ?_, fun j hj => ?_⟩
                · rcases Nat.lt_or_eq_of_le (Nat.lt_succ_iff.1 hi') with h | h
                  · have := a1 i' h
                    rw [hm2]; split <;> omega
                  · rw [h, hq, hm2]; split <;> omega
                · by_cases h : j < mm
                  · obtain ⟨i', h1, h2⟩ := a2 j h
                    exact ⟨i', by omega, h2⟩
                  · refine ⟨i, by omega, ?_⟩
                    rw [hm2] at hj
                    by_cases h2 : q = mm
                    · rw [if_pos h2] at hj; rw [hq]; omega
                    · rw [if_neg h2] at hj; omega
              have hm2i : m2 ≤ i + 1 := by rw [hm2]; split <;> omega
              have HM2E := Lib.hid hm2
              have HSL := Lib.hid HS.out.1
              have HNZ := Lib.hid hnz
              have HNS := Lib.hid hns
              clear hns
              clear hq r1 r2 r3 hgs hsq hlie hsx hpz hgb hm2 hnz HM HS hmn
              go_upto_if 124 with (fail)
              obtain ⟨w12, rfl⟩ : ∃ W, W = wr := ⟨wr, rfl⟩
              go_cut [12] from 100 to 125 (fun v W => v = .int .i64 (m2 : Nat) ∧ W = w12)
              case first =>
                as_aux_lemma =>
                  by_cases hqe : q = mm
                  · have h2 : m2 = mm + 1 := by rw [HM2E.out, if_pos hqe]
                    subst hqe
                    subst h2
                    have k1 : ((q:Int) == (q:Int)) = true := by simp
                    go_wp2
                    go_meet
                    case rel => exact ⟨by go_num, rfl⟩
                  · have h2 : m2 = mm := by rw [HM2E.out, if_neg hqe]
                    have k1 : ((q:Int) == (mm:Int)) = false := by simp; omega
                    have k2 : (q == mm) = false := by simpa using hqe
                    subst h2
                    go_wp2
                    go_meet
                    case rel => exact ⟨rfl, rfl⟩
              case rest =>
              obtain ⟨rfl, hwc⟩ := hcut
              subst hwc
              go_upto_region 24 with (fail)
              have hxd : Ext wc wc.drew := (Below.refl _ wc).drew
              have hsb := SB.out.ext hxd
              have hy := Y.out.tr hxd
              refine wp_region_K (fun W => W.cell? ⟨gb, i, none⟩ = some (.int .i64 q) ∧ W.cell? ⟨sb, q, none⟩ = some (.int .i64 sq) ∧ W.cell? ⟨lb, i, none⟩ = some (.int .i64 li)) 13 (by kernel_rfl) ⟨hxd.cellSome e1, hxd.cellSome e3, hxd.cellSome e2⟩ (fun hHeld => ?_)
              replace e2 := hxd.cellSome e2
              clear SB Y hxd e1 e3
              have SB := Lib.hid hsb
              have Y := Lib.hid hy
              clear hsb hy
              generalize wc.drew = wA at *
              refine wpAnyK_takeL (i := 0) (v := ?_) rfl (by kernel_rfl) (by kernel_rfl) (by kernel_rfl) (by kernel_rfl) (fun _ _ _ h => h) (Or.inl ⟨by rfl, ?_⟩) hHeld ?_
              rotate_left
              · intro w hSw; (try dsimp only at hSw); go_simp; (try with_reducible rfl)
              try simp only [Act.put, List.setIfInBounds_toArray, List.set_cons_zero, List.set_cons_succ]
              refine wpAnyK_takeL (i := 1) (v := ?_) rfl (by kernel_rfl) (by kernel_rfl) (by kernel_rfl) (by kernel_rfl) (fun _ _ _ h => h) (Or.inl ⟨by rfl, ?_⟩) hHeld ?_
              rotate_left
              · intro w hSw; (try dsimp only at hSw); go_simp; (try with_reducible rfl)
              try simp only [Act.put, List.setIfInBounds_toArray, List.set_cons_zero, List.set_cons_succ]
              refine wpAnyK_takeL (i := 2) (v := ?_) rfl (by kernel_rfl) (by kernel_rfl) (by kernel_rfl) (by kernel_rfl) (fun _ _ _ h => h) (Or.inl ⟨by rfl, ?_⟩) hHeld ?_
              rotate_left
              · intro w hSw; (try dsimp only at hSw); go_simp; (try with_reducible rfl)
              try simp only [Act.put, List.setIfInBounds_toArray, List.set_cons_zero, List.set_cons_succ]
              refine wpAnyK_takeL (i := 3) (v := ?_) rfl (by kernel_rfl) (by kernel_rfl) (by kernel_rfl) (by kernel_rfl) (fun _ _ _ h => h) (Or.inl ⟨by rfl, ?_⟩) hHeld ?_
              rotate_left
              · intro w hSw; (try dsimp only at hSw); go_simp; (try with_reducible rfl)
              try simp only [Act.put, List.setIfInBounds_toArray, List.set_cons_zero, List.set_cons_succ]
              refine wpAnyK_takeL (i := 4) (v := ?_) rfl (by kernel_rfl) (by kernel_rfl) (by kernel_rfl) (by kernel_rfl) (fun _ _ _ h => h) (Or.inl ⟨by rfl, ?_⟩) hHeld ?_
              rotate_left
              · intro w hSw; (try dsimp only at hSw); go_simp; (try with_reducible rfl)
              try simp only [Act.put, List.setIfInBounds_toArray, List.set_cons_zero, List.set_cons_succ]
              refine wpAnyK_takeL (i := 5) (v := ?_) rfl (by kernel_rfl) (by kernel_rfl) (by kernel_rfl) (by kernel_rfl) (fun _ _ _ h => h) (Or.inl ⟨by rfl, ?_⟩) hHeld ?_
              rotate_left
              · intro w hSw; (try dsimp only at hSw); go_simp; (try with_reducible rfl)
              try simp only [Act.put, List.setIfInBounds_toArray, List.set_cons_zero, List.set_cons_succ]
              refine wpAnyK_takeL (i := 6) (v := ?_) rfl (by kernel_rfl) (by kernel_rfl) (by kernel_rfl) (by kernel_rfl) (fun _ _ _ h => h) (Or.inl ⟨by rfl, ?_⟩) hHeld ?_
              rotate_left
              · intro w hSw; (try dsimp only at hSw); go_simp; (try with_reducible rfl)
              try simp only [Act.put, List.setIfInBounds_toArray, List.set_cons_zero, List.set_cons_succ]
              refine wpAnyK_takeL (i := 7) (v := ?_) rfl (by kernel_rfl) (by kernel_rfl) (by kernel_rfl) (by kernel_rfl) (fun _ _ _ h => h) (Or.inl ⟨by rfl, ?_⟩) hHeld ?_
              rotate_left
              · intro w hSw; (try dsimp only at hSw); go_simp; (try with_reducible rfl)
              try simp only [Act.put, List.setIfInBounds_toArray, List.set_cons_zero, List.set_cons_succ]
              refine wpAnyK_takeL (i := 8) (v := ?_) rfl (by kernel_rfl) (by kernel_rfl) (by kernel_rfl) (by kernel_rfl) (fun _ _ _ h => h) (Or.inl ⟨by rfl, ?_⟩) hHeld ?_
              rotate_left
              · intro w hSw; (try dsimp only at hSw); go_simp; (try with_reducible rfl)
              try simp only [Act.put, List.setIfInBounds_toArray, List.set_cons_zero, List.set_cons_succ]
              refine wpAnyK_takeL (i := 9) (v := ?_) rfl (by kernel_rfl) (by kernel_rfl) (by kernel_rfl) (by kernel_rfl) (fun _ _ _ h => h) (Or.inl ⟨by rfl, ?_⟩) hHeld ?_
              rotate_left
              · intro w hSw; (try dsimp only at hSw); go_simp; (try with_reducible rfl)
              try simp only [Act.put, List.setIfInBounds_toArray, List.set_cons_zero, List.set_cons_succ]
              refine wpAnyK_takeL (i := 10) (v := ?_) rfl (by kernel_rfl) (by kernel_rfl) (by kernel_rfl) (by kernel_rfl) (fun _ _ _ h => h) (Or.inl ⟨by rfl, ?_⟩) hHeld ?_
              rotate_left
              · intro w hSw; (try dsimp only at hSw); go_simp; (try with_reducible rfl)
              try simp only [Act.put, List.setIfInBounds_toArray, List.set_cons_zero, List.set_cons_succ]
              refine wpAnyK_takeL (i := 11) (v := ?_) rfl (by kernel_rfl) (by kernel_rfl) (by kernel_rfl) (by kernel_rfl) (fun _ _ _ h => h) (Or.inl ⟨by rfl, ?_⟩) hHeld ?_
              rotate_left
              · intro w hSw; (try dsimp only at hSw); go_simp; (try with_reducible rfl)
              try simp only [Act.put, List.setIfInBounds_toArray, List.set_cons_zero, List.set_cons_succ]
              refine wpAnyK_takeL (i := 12) (v := ?_) rfl (by kernel_rfl) (by kernel_rfl) (by kernel_rfl) (by kernel_rfl) (fun _ _ _ h => h) (Or.inl ⟨by rfl, ?_⟩) hHeld ?_
              rotate_left
              · intro w hSw; (try dsimp only at hSw); go_simp; (try with_reducible rfl)
              try simp only [Act.put, List.setIfInBounds_toArray, List.set_cons_zero, List.set_cons_succ]
              clear hHeld
              refine wpAnyK_ready (rs := [13]) (by kernel_rfl) (by simp) ?_
              refine AllReadyK.consL (i := 13) rfl (fun K hK => ?_) ?_
              · refine step_setK (i := q) (v := .int .i64 sx) rfl rfl SB.out rfl rfl (by rw [iA_size, HSL.out]; exact hqn) (by kernel_rfl) rfl (by simp [Value.oneCell']) ?_
                intro wB hw1 hb1 ho1
                rw [iA_set] at hb1
                have hy2 := Y.out.then_only ho1 (fun q e => by rw [e]; exact LSB.out)
                have e4 := ho1.cell e2 (fun e => by have := NSB.out.1; have e5 : lb = sb := e; omega)
                clear hw1 SB Y e2 ho1
                have SB := Lib.hid hb1
                have Y := Lib.hid hy2
                clear hb1 hy2
                refine hK.out _ _ (fun h => absurd h (by decide)) (fun hHeld2 => ?_)
                clear hK K hHeld2
                try clear hHeld
                try simp only [Act.put, List.setIfInBounds_toArray, List.set_cons_zero, List.set_cons_succ]
                refine wpAnyK_done (by kernel_rfl) ?_ _
                by_cases h0 : li = 0
                · have k0 : (li != 0) = false := by simp [h0]
                  have k1 : nzs (l.take (i + 1)) = pz := by rw [HNZ.out, if_pos h0]; rfl
                  have K1 := Lib.hid k1
                  clear h0 k1
                  go_wp2
                  go_roundw
                  case rel => exact ⟨i + 1, m2, sm.set q sx, by omega, by go_num, rfl, by rw [K1.out], hm2i, HM2, Lib.hid ⟨by rw [List.length_set]; exact HSL.out, HNS.out⟩, SB, Y⟩
                  case measure => simp [intOf]; omega
                · have k0 : (li != 0) = true := by simpa using h0
                  have k1 : nzs (l.take (i + 1)) = pz + 1 := by rw [HNZ.out, if_neg h0]
                  have K1 := Lib.hid k1
                  clear h0 k1
                  go_wp2
                  go_roundw
                  case rel => exact ⟨i + 1, m2, sm.set q sx, by omega, by go_num, rfl, by rw [K1.out]; go_num, hm2i, HM2, Lib.hid ⟨by rw [List.length_set]; exact HSL.out, HNS.out⟩, SB, Y⟩
                  case measure => simp [intOf]; omega
              · exact AllReadyK.nil
          · obtain rfl : i = n := by omega
            have hmm : mm = m := by
              obtain ⟨a1, a2⟩ := HM.out
              rcases Nat.lt_trichotomy mm m with h | h | h
              · obtain ⟨i', h1, h2⟩ := HC.out.att mm h
                have := a1 i' (by rw [← HLL.out]; exact h1)
                omega
              · exact h
              · obtain ⟨i', h1, h2⟩ := a2 m h
                have := (HC.out.rgs i' (by rw [HLL.out]; exact h1)).2.1
                omega
            subst hmm
            have hsz : ∀ c, c < i → gI sm c = 0 := fun c hc => by
              rw [HS.out.2 c hc]
              have := HC.out.sums c
              rw [HLL.out] at this
              exact this
            have htk : l.take i = l := List.take_of_length_le (by rw [HLL.out]; exact Nat.le_refl _)
            rw [htk]
            have HSL := Lib.hid HS.out.1
            have hpzn := nzs_le l
            obtain ⟨pz, hpz⟩ : ∃ y, y = nzs l := ⟨_, rfl⟩
            rw [← hpz, HLL.out] at hpzn
            rw [← hpz]
            have hnum : ps.length + mm = i := by rw [HC.out.num, HLL.out]
            have hln : l.length ≤ 10 := by rw [HLL.out]; exact hn2
            obtain ⟨z, hz⟩ : ∃ z, z = i - pz := ⟨_, rfl⟩
            have kz : IntKind.i64.wrap ((i:Int) - (pz:Int)) = (z : Int) := by rw [i64_eq _ ⟨by omega, by omega⟩]; omega
            obtain ⟨dz, hdz⟩ : ∃ y : Int, y = (mm : Int) - (z : Int) := ⟨_, rfl⟩
            have kz1 : IntKind.i64.wrap ((mm:Int) - (z:Int)) = dz := by rw [hdz]; exact i64_eq _ ⟨by omega, by omega⟩
            have kz2 : IntKind.i64.wrap ((pz:Int) - dz) = (ps.length : Int) := by rw [i64_eq ((pz:Int) - dz) ⟨by omega, by omega⟩]; omega
            have HNUM := Lib.hid hnum
            have HSZ := Lib.hid hsz
            clear hsz
            clear hlt hpz htk HM HS hz hdz hnum
            have hLI : ∀ W, Ext w10 W → Ints W (.slice (some ⟨lb, 0, none⟩) i lc) l := fun W k => by
              have h := (LR.out.ext k).ints lc (by omega)
              rw [HLL.out] at h; exact h
            obtain ⟨w13, rfl⟩ : ∃ W, W = wr := ⟨wr, rfl⟩
            have hs13 := SB.out.lt
            have HS13 := Lib.hid hs13
            have HLI := Lib.hid hLI
            clear hLI hs13
            go_upto_region 30 with (first
              | (with_reducible refine wpList_build0 tInts rfl rfl ?_
                 rintro v0 wv hxv hov
                 have XV := Lib.hid hxv
                 have V0 := Lib.hid hov
                 clear hxv hov)
              | (have hv0 := V0.out
                 at_builtin
                 refine wpList_app tInts rfl rfl rfl hv0 rfl (HLI.out _ (Y.out.tr XV.out)).src (by simp [Value.oneCell']) (by simp; omega) XV.out.size ?_
                 rintro v1 w14 h1 h2 h3
                 have hx1 := ext_grown XV.out hv0 h2
                 rw [Nat.zero_add, List.nil_append, List.length_map] at h1
                 obtain ⟨rb, rc, rfl, hrb, hrr⟩ := RowI.of_owns h1 (by rw [HLL.out]; omega)
                 rw [HLL.out]
                 have hrb2 := Nat.le_trans Y.out.size hrb
                 have nsr : sb < rb := Nat.lt_of_lt_of_le HS13.out hrb
                 clear V0 XV hv0 h1 h2 h3
                 replace Y := Lib.hid (Y.out.ext hx1)
                 replace SB := Lib.hid (SB.out.ext hx1)
                 have RB := Lib.hid hrr
                 have LRB := Lib.hid hrb2
                 have NSR := Lib.hid nsr
                 clear hrr hrb2 nsr
                 clear hx1 hrb))
            have hst0 : ∃ vF, Steps G l (ps.drop 0) vF ∧ vF.length = i ∧ ∀ k, k < i → gI vF k = 0 := by
              obtain ⟨vF, h1, h2, h3⟩ := HC.out.steps
              rw [HLL.out] at h2 h3
              exact ⟨vF, h1, h2, h3⟩
            have HST0 := Lib.hid hst0
            clear hst0
            go_loopw [18] (fun t wr => ∃ (k : Nat) (v : List Int), k ≤ ps.length ∧ t = .int .i64 k ∧ Hid (∃ vF, Steps G v (ps.drop k) vF ∧ vF.length = i ∧ ∀ k, k < i → gI vF k = 0) ∧ Hid (v.length = i) ∧ Hid (∀ u ∈ v, -1000 ≤ u ∧ u ≤ 1000) ∧ Hid (RowI wr rb v) ∧ Hid (Blk wr sb (iA sm) 3) ∧ Hid (Ext w10 wr)) (fun t _ => ps.length - (intOf t).toNat)
            case atStart => exact ⟨0, l, Nat.zero_le _, rfl, HST0, HLL, HLA, RB, SB, Y⟩
            case round =>
              clear HST0 RB SB Y
              obtain ⟨k, v, hk, rfl, HST, HVL, HVA, RB, SB, Y⟩ := hrel
              by_cases hkl : k < ps.length
              · --[
                as_aux_lemma =>
                  obtain ⟨vF, hst, hvf1, hvf2⟩ := HST.out
                  rw [List.drop_eq_getElem_cons hkl] at hst
                  obtain ⟨pb, po, rfl, hpc⟩ := PIN.out.cells (by omega)
                  have e0 := Y.out.cell (World.block_lt_of_cell? _ _ (by have := hpc k hkl 0 (by decide); rw [Nat.add_zero] at this; exact this.trans rfl))
                  have c0 := hpc k hkl 0 (by decide)
                  have c1 := hpc k hkl 1 (by decide)
                  have c2 := hpc k hkl 2 (by decide)
                  rw [Nat.add_zero] at c0
                  clear e0
                  obtain ⟨p, hpe⟩ : ∃ p, p = ps[k] := ⟨_, rfl⟩
                  rw [← hpe] at hst c0 c1 c2
                  obtain ⟨qs, hqs⟩ : ∃ qs, qs = ps.drop (k + 1) := ⟨_, rfl⟩
                  rw [← hqs] at hst
                  obtain ⟨a, b, ha, hb, h1, h2, hg, rfl, htl⟩ : ∃ a b, a < v.length ∧ b < v.length ∧ gI v a < 0 ∧ 0 < gI v b ∧ gI G a = gI G b ∧ p = ⟨a, b, payN v a b⟩ ∧ Steps G ((v.set a (gI v a + payN v a b)).set b (gI v b - payN v a b)) qs vF := by
                    cases hst with
                    | cons a b ha hb h1 h2 hg h => exact ⟨a, b, ha, hb, h1, h2, hg, rfl, h⟩
                  rw [hqs] at htl
                  have hpn : payN v a b = min (-(gI v a)) (gI v b) := rfl
                  obtain ⟨pn, hpn0⟩ : ∃ y, y = payN v a b := ⟨_, rfl⟩
                  rw [← hpn0] at hpn c0 c1 c2 htl
                  have hbva := gI_abs HVA.out a
                  have hbvb := gI_abs HVA.out b
                  have hab : a ≠ b := fun e => by subst e; omega
                  have ca := RB.out.cell ha
                  have cb := RB.out.cell hb
                  have hga : a < G.length := by have := HGL.out; have := HLL.out; have := HVL.out; omega
                  have hgb2 : b < G.length := by have := HGL.out; have := HLL.out; have := HVL.out; omega
                  have cga := Y.out.cellSome (GR.out.int hga)
                  have cgb := Y.out.cellSome (GR.out.int hgb2)
                  rw [← hg] at cgb
                  obtain ⟨gq, hgq⟩ : ∃ y, y = gI G a := ⟨_, rfl⟩
                  rw [← hgq] at cga cgb
                  obtain ⟨va, hva⟩ : ∃ y, y = gI v a := ⟨_, rfl⟩
                  obtain ⟨vb, hvb⟩ : ∃ y, y = gI v b := ⟨_, rfl⟩
                  rw [← hva] at ca h1 hpn hbva htl
                  rw [← hvb] at cb h2 hpn hbvb htl
                  rw [HVL.out] at ha hb
                  replace c0 : w10.cell? ⟨pb, po + k * 3, none⟩ = some (.int .i64 (a : Int)) := c0
                  replace c1 : w10.cell? ⟨pb, po + k * 3 + 1, none⟩ = some (.int .i64 (b : Int)) := c1
                  replace c2 : w10.cell? ⟨pb, po + k * 3 + 2, none⟩ = some (.int .i64 pn) := c2
                  replace c0 := Y.out.cellSome c0
                  replace c1 := Y.out.cellSome c1
                  replace c2 := Y.out.cellSome c2
                  have hp1 : 1 ≤ pn ∧ pn ≤ -va ∧ pn ≤ vb := by omega
                  obtain ⟨hp1, hp2, hp3⟩ := hp1
                  obtain ⟨y1, hy1⟩ : ∃ y, y = va + pn := ⟨_, rfl⟩
                  obtain ⟨y2, hy2⟩ : ∃ y, y = vb - pn := ⟨_, rfl⟩
                  have kw1 : IntKind.i64.wrap (va + pn) = y1 := by rw [hy1]; exact i64_eq _ ⟨by omega, by omega⟩
                  have kw2 : IntKind.i64.wrap (vb - pn) = y2 := by rw [hy2]; exact i64_eq _ ⟨by omega, by omega⟩
                  rw [← hy1, ← hy2] at htl
                  have hvb2 : gI (v.set a y1) b = vb := by rw [gI_setN _ _ _ _ (by rw [HVL.out]; exact ha), if_neg (show ¬ b = a from fun e => hab e.symm), hvb]
                  have hnew : ∀ u ∈ (v.set a y1).set b y2, -1000 ≤ u ∧ u ≤ 1000 := fun u hu => by
                    rcases List.mem_or_eq_of_mem_set hu with hu | rfl
                    · rcases List.mem_or_eq_of_mem_set hu with hu | rfl
                      · exact HVA.out u hu
                      · omega
                    · omega
                  have ja1 : (0:Int) ≤ (a:Int) := by omega
                  have ja2 : (a:Int) < (i:Int) := by omega
                  have jb1 : (0:Int) ≤ (b:Int) := by omega
                  have jb2 : (b:Int) < (i:Int) := by omega
                  have jk1 : (0:Int) ≤ (k:Int) := by omega
                  have jk2 : (k:Int) < (ps.length:Int) := by omega
                  have t1 : ¬ ((a:Int) < 0) := by omega
                  have t2 : ¬ ((i:Int) ≤ (a:Int)) := by omega
                  have t3 : ¬ ((b:Int) < 0) := by omega
                  have t4 : ¬ ((i:Int) ≤ (b:Int)) := by omega
                  have t2' : ¬ (i ≤ a) := by omega
                  have t4' : ¬ (i ≤ b) := by omega
                  have t5 : ¬ pn < 1 := by omega
                  have t6 : ¬ 0 ≤ va := by omega
                  have t7 : ¬ vb ≤ 0 := by omega
                  have t8 : ¬ -va < pn := by omega
                  obtain ⟨ng, hng⟩ : ∃ y, y = -va := ⟨_, rfl⟩
                  have kn1 : wrap64 (-va) = ng := by rw [hng]; unfold wrap64; omega
                  have kn2 : IntKind.i64.wrap (-va) = ng := by rw [hng]; exact i64_eq (-va) ⟨by omega, by omega⟩
                  have t8' : ¬ ng < pn := by omega
                  have t9 : ¬ vb < pn := by omega
                  obtain ⟨hbva1, hbva2⟩ := hbva
                  obtain ⟨hbvb1, hbvb2⟩ := hbvb
                  have HTL := Lib.hid htl
                  have HVF := Lib.hid (And.intro hvf1 hvf2)
                  clear hvf1 hvf2
                  have HVB2 := Lib.hid hvb2
                  have HVA2 := Lib.hid hva
                  have HNEW := Lib.hid hnew
                  have hrbl := RB.out.lt
                  have hsbl := SB.out.lt
                  have HRBL := Lib.hid hrbl
                  have HSBL := Lib.hid hsbl
                  clear hst hpc hpe hqs htl hpn hpn0 hg hgq hva hvb hvb2 hnew hy1 hy2 hga hgb2 hrbl hsbl hng
                  go_upto_region 33 with (first
                    | (with_reducible refine wpList_allocA (t := 41) rfl rfl Try.zeroValue41 ?_
                       rintro xb w15 hb15 hx15 hl15
                       have hxw := Nat.le_trans Y.out.size hl15
                       have nxr : rb < xb ∧ sb < xb := ⟨Nat.lt_of_lt_of_le HRBL.out hl15, Nat.lt_of_lt_of_le HSBL.out hl15⟩
                       replace ca := hx15.cellSome ca
                       replace cb := hx15.cellSome cb
                       replace cga := hx15.cellSome cga
                       replace cgb := hx15.cellSome cgb
                       replace c0 := hx15.cellSome c0
                       replace c1 := hx15.cellSome c1
                       replace c2 := hx15.cellSome c2
                       have xin : wr.heap.size ≤ xb := hl15
                       replace Y := Lib.hid (Y.out.ext hx15)
                       replace RB := Lib.hid (RB.out.ext hx15)
                       replace SB := Lib.hid (SB.out.ext hx15)
                       have XB := Lib.hid hb15
                       have LXB := Lib.hid hxw
                       have NXR := Lib.hid nxr
                       have XIN := Lib.hid xin
                       have X15 := Lib.hid hx15
                       clear hb15 hxw nxr xin hx15
                       clear hl15)
                    | (with_reducible refine wpList_storeK (ty := 41) (cells := #[.int .i64 (a : Int), .int .i64 (b : Int), .int .i64 pn]) rfl rfl XB.out ?_ ?_ ?_ ?_ ?_ ?_
                       · rfl
                       · rfl
                       · kernel_rfl
                       · rfl
                       · simp [Value.oneCell']
                       rintro w16 hb16 ho16
                       have hy16 := Y.out.then_only ho16 (fun q e => by rw [e]; exact LXB.out)
                       have hr16 := RB.out.only ho16 (fun e => by have := NXR.out; have e5 : rb = xb := e; omega)
                       have hs16 := SB.out.only ho16 (fun e => by have := NXR.out; have e5 : sb = xb := e; omega)
                       replace ca := ho16.cell ca (fun e => by have := NXR.out; have e5 : rb = xb := e; omega)
                       replace cb := ho16.cell cb (fun e => by have := NXR.out; have e5 : rb = xb := e; omega)
                       replace cga := ho16.cell cga (fun e => by have := NXR.out; have := NSB.out; have e5 : gb = xb := e; omega)
                       replace cgb := ho16.cell cgb (fun e => by have := NXR.out; have := NSB.out; have e5 : gb = xb := e; omega)
                       clear XB Y RB SB ho16 c0 c1 c2 X15
                       have x0 : w16.cell? ⟨xb, 0, none⟩ = some (.int .i64 (a : Int)) := hb16.cell 0
                       have x1 : w16.cell? ⟨xb, 1, none⟩ = some (.int .i64 (b : Int)) := hb16.cell 1
                       have x2 : w16.cell? ⟨xb, 2, none⟩ = some (.int .i64 pn) := hb16.cell 2
                       have XB := Lib.hid hb16
                       have Y := Lib.hid hy16
                       have RB := Lib.hid hr16
                       have SB := Lib.hid hs16
                       clear hb16 hy16 hr16 hs16))
                  go_quiet (fail)
                  have hxq : Ext w16 (w16.drewN nq) := Ext.of_drewN _ _
                  replace Y := Lib.hid (Y.out.ext hxq)
                  replace RB := Lib.hid (RB.out.ext hxq)
                  replace SB := Lib.hid (SB.out.ext hxq)
                  replace XB := Lib.hid (XB.out.ext hxq)
                  generalize w16.drewN nq = w16 at *
                  clear hxq x0 x1 x2 ca cb cga cgb
                  have x0 := XB.out.cell 0
                  have x1 := XB.out.cell 1
                  have x2 := XB.out.cell 2
                  have ca := RB.out.cell (i := a) (by rw [HVL.out]; exact ha)
                  rw [← HVA2.out] at ca
                  have cb := ca
                  go_upto_region 35 with (fail)
                  clear t1 t2 t3 t4 t2' t4' t5 t6 t7 t8 t9 t8' kn1 kn2
                  obtain ⟨cs, hbk, hcs, hcv⟩ := RB.out
                  have hxd : Ext w16 w16.drew := (Below.refl _ w16).drew
                  have hbk2 := hbk.ext hxd
                  have hxb := XB.out.ext hxd
                  have hsb2 := SB.out.ext hxd
                  have hy := Y.out.tr hxd
                  have hcsz : a < cs.size := by rw [HVL.out] at hcs; omega
                  have hse := RowI.set_cs hcs hcv (j := a) (by rw [HVL.out]; exact ha) y1
                  refine wp_region_K (fun W => W.cell? ⟨xb, 0, none⟩ = some (.int .i64 (a : Int)) ∧ W.cell? ⟨xb, 2, none⟩ = some (.int .i64 pn) ∧ W.cell? ⟨rb, a, none⟩ = some (.int .i64 va)) 9 (by kernel_rfl) ⟨hxd.cellSome x0, hxd.cellSome x2, hxd.cellSome ca⟩ (fun hHeld => ?_)
                  clear RB SB Y XB hxd hbk x0 x1 x2 ca cb hcs hcv
                  have BK := Lib.hid hbk2
                  have SB := Lib.hid hsb2
                  have Y := Lib.hid hy
                  have XB := Lib.hid hxb
                  have CSZ := Lib.hid hcsz
                  have HSE := Lib.hid hse
                  clear hbk2 hsb2 hy hxb hcsz hse
                  generalize w16.drew = w17 at *
                  refine wpAnyK_takeL (i := 0) (v := ?_) rfl (by kernel_rfl) (by kernel_rfl) (by kernel_rfl) (by kernel_rfl) (fun _ _ _ h => h) (Or.inl ⟨by rfl, ?_⟩) hHeld ?_
                  rotate_left
                  · intro w hSw; (try dsimp only at hSw); go_simp; (try with_reducible rfl)
                  try simp only [Act.put, List.setIfInBounds_toArray, List.set_cons_zero, List.set_cons_succ]
                  refine wpAnyK_takeL (i := 1) (v := ?_) rfl (by kernel_rfl) (by kernel_rfl) (by kernel_rfl) (by kernel_rfl) (fun _ _ _ h => h) (Or.inl ⟨by rfl, ?_⟩) hHeld ?_
                  rotate_left
                  · intro w hSw; (try dsimp only at hSw); go_simp; (try with_reducible rfl)
                  try simp only [Act.put, List.setIfInBounds_toArray, List.set_cons_zero, List.set_cons_succ]
                  refine wpAnyK_takeL (i := 2) (v := ?_) rfl (by kernel_rfl) (by kernel_rfl) (by kernel_rfl) (by kernel_rfl) (fun _ _ _ h => h) (Or.inl ⟨by rfl, ?_⟩) hHeld ?_
                  rotate_left
                  · intro w hSw; (try dsimp only at hSw); go_simp; (try with_reducible rfl)
                  try simp only [Act.put, List.setIfInBounds_toArray, List.set_cons_zero, List.set_cons_succ]
                  refine wpAnyK_takeL (i := 3) (v := ?_) rfl (by kernel_rfl) (by kernel_rfl) (by kernel_rfl) (by kernel_rfl) (fun _ _ _ h => h) (Or.inl ⟨by rfl, ?_⟩) hHeld ?_
                  rotate_left
                  · intro w hSw; (try dsimp only at hSw); go_simp; (try with_reducible rfl)
                  try simp only [Act.put, List.setIfInBounds_toArray, List.set_cons_zero, List.set_cons_succ]
                  refine wpAnyK_takeL (i := 4) (v := ?_) rfl (by kernel_rfl) (by kernel_rfl) (by kernel_rfl) (by kernel_rfl) (fun _ _ _ h => h) (Or.inl ⟨by rfl, ?_⟩) hHeld ?_
                  rotate_left
                  · intro w hSw; (try dsimp only at hSw); go_simp; (try with_reducible rfl)
                  try simp only [Act.put, List.setIfInBounds_toArray, List.set_cons_zero, List.set_cons_succ]
                  refine wpAnyK_takeL (i := 5) (v := ?_) rfl (by kernel_rfl) (by kernel_rfl) (by kernel_rfl) (by kernel_rfl) (fun _ _ _ h => h) (Or.inl ⟨by rfl, ?_⟩) hHeld ?_
                  rotate_left
                  · intro w hSw; (try dsimp only at hSw); go_simp; (try with_reducible rfl)
                  try simp only [Act.put, List.setIfInBounds_toArray, List.set_cons_zero, List.set_cons_succ]
                  refine wpAnyK_takeL (i := 6) (v := ?_) rfl (by kernel_rfl) (by kernel_rfl) (by kernel_rfl) (by kernel_rfl) (fun _ _ _ h => h) (Or.inl ⟨by rfl, ?_⟩) hHeld ?_
                  rotate_left
                  · intro w hSw; (try dsimp only at hSw); go_simp; (try with_reducible rfl)
                  try simp only [Act.put, List.setIfInBounds_toArray, List.set_cons_zero, List.set_cons_succ]
                  refine wpAnyK_takeL (i := 7) (v := ?_) rfl (by kernel_rfl) (by kernel_rfl) (by kernel_rfl) (by kernel_rfl) (fun _ _ _ h => h) (Or.inl ⟨by rfl, ?_⟩) hHeld ?_
                  rotate_left
                  · intro w hSw; (try dsimp only at hSw); go_simp; (try with_reducible rfl)
                  try simp only [Act.put, List.setIfInBounds_toArray, List.set_cons_zero, List.set_cons_succ]
                  refine wpAnyK_takeL (i := 8) (v := ?_) rfl (by kernel_rfl) (by kernel_rfl) (by kernel_rfl) (by kernel_rfl) (fun _ _ _ h => h) (Or.inl ⟨by rfl, ?_⟩) hHeld ?_
                  rotate_left
                  · intro w hSw; (try dsimp only at hSw); go_simp; (try with_reducible rfl)
                  try simp only [Act.put, List.setIfInBounds_toArray, List.set_cons_zero, List.set_cons_succ]
                  clear hHeld
                  refine wpAnyK_ready (rs := [9]) (by kernel_rfl) (by simp) ?_
                  refine AllReadyK.consL (i := 9) rfl (fun K hK => ?_) ?_
                  · refine step_setK (i := a) (v := .int .i64 y1) rfl rfl BK.out rfl rfl CSZ.out (by kernel_rfl) rfl (by simp [Value.oneCell']) ?_
                    intro w18 hw1 hb1 ho1
                    have hy2 := Y.out.then_only ho1 (fun q e => by rw [e]; exact LRB.out)
                    have hs2 := SB.out.only ho1 (fun e => by have := NSR.out; have e5 : sb = rb := e; omega)
                    have hx2 := XB.out.only ho1 (fun e => by have := NXR.out; have e5 : xb = rb := e; omega)
                    have hrr : RowI w18 rb (v.set a y1) := ⟨_, hb1, HSE.out.1, HSE.out.2⟩
                    clear hw1 SB Y XB BK ho1 hb1 HSE CSZ
                    have RB := Lib.hid hrr
                    have SB := Lib.hid hs2
                    have Y := Lib.hid hy2
                    have XB := Lib.hid hx2
                    clear hrr hs2 hy2 hx2
                    refine hK.out _ _ (fun h => absurd h (by decide)) (fun hHeld2 => ?_)
                    clear hK K hHeld2
                    try clear hHeld
                    try simp only [Act.put, List.setIfInBounds_toArray, List.set_cons_zero, List.set_cons_succ]
                    refine wpAnyK_done (by kernel_rfl) ?_ _
                    have x0 := XB.out.cell 0
                    have x1 := XB.out.cell 1
                    have x2 := XB.out.cell 2
                    have cb := RB.out.cell (i := b) (by rw [List.length_set, HVL.out]; exact hb)
                    rw [HVB2.out] at cb
                    have ca := cb
                    go_upto_region 36 with (fail)
                    obtain ⟨cs, hbk, hcs, hcv⟩ := RB.out
                    have hxd : Ext w18 w18.drew := (Below.refl _ w18).drew
                    have hbk2 := hbk.ext hxd
                    have hxb := XB.out.ext hxd
                    have hsb2 := SB.out.ext hxd
                    have hy := Y.out.tr hxd
                    have hcsz : b < cs.size := by rw [List.length_set, HVL.out] at hcs; omega
                    have hse := RowI.set_cs hcs hcv (j := b) (by rw [List.length_set, HVL.out]; exact hb) y2
                    refine wp_region_K (fun W => W.cell? ⟨xb, 1, none⟩ = some (.int .i64 (b : Int)) ∧ W.cell? ⟨xb, 2, none⟩ = some (.int .i64 pn) ∧ W.cell? ⟨rb, b, none⟩ = some (.int .i64 vb)) 9 (by kernel_rfl) ⟨hxd.cellSome x1, hxd.cellSome x2, hxd.cellSome cb⟩ (fun hHeld => ?_)
                    clear RB SB Y XB hxd hbk x0 x1 x2 ca cb hcs hcv
                    have BK := Lib.hid hbk2
                    have SB := Lib.hid hsb2
                    have Y := Lib.hid hy
                    have XB := Lib.hid hxb
                    have CSZ := Lib.hid hcsz
                    have HSE := Lib.hid hse
                    clear hbk2 hsb2 hy hxb hcsz hse
                    generalize w18.drew = w19 at *
                    refine wpAnyK_takeL (i := 0) (v := ?_) rfl (by kernel_rfl) (by kernel_rfl) (by kernel_rfl) (by kernel_rfl) (fun _ _ _ h => h) (Or.inl ⟨by rfl, ?_⟩) hHeld ?_
                    rotate_left
                    · intro w hSw; (try dsimp only at hSw); go_simp; (try with_reducible rfl)
                    try simp only [Act.put, List.setIfInBounds_toArray, List.set_cons_zero, List.set_cons_succ]
                    refine wpAnyK_takeL (i := 1) (v := ?_) rfl (by kernel_rfl) (by kernel_rfl) (by kernel_rfl) (by kernel_rfl) (fun _ _ _ h => h) (Or.inl ⟨by rfl, ?_⟩) hHeld ?_
                    rotate_left
                    · intro w hSw; (try dsimp only at hSw); go_simp; (try with_reducible rfl)
                    try simp only [Act.put, List.setIfInBounds_toArray, List.set_cons_zero, List.set_cons_succ]
                    refine wpAnyK_takeL (i := 2) (v := ?_) rfl (by kernel_rfl) (by kernel_rfl) (by kernel_rfl) (by kernel_rfl) (fun _ _ _ h => h) (Or.inl ⟨by rfl, ?_⟩) hHeld ?_
                    rotate_left
                    · intro w hSw; (try dsimp only at hSw); go_simp; (try with_reducible rfl)
                    try simp only [Act.put, List.setIfInBounds_toArray, List.set_cons_zero, List.set_cons_succ]
                    refine wpAnyK_takeL (i := 3) (v := ?_) rfl (by kernel_rfl) (by kernel_rfl) (by kernel_rfl) (by kernel_rfl) (fun _ _ _ h => h) (Or.inl ⟨by rfl, ?_⟩) hHeld ?_
                    rotate_left
                    · intro w hSw; (try dsimp only at hSw); go_simp; (try with_reducible rfl)
                    try simp only [Act.put, List.setIfInBounds_toArray, List.set_cons_zero, List.set_cons_succ]
                    refine wpAnyK_takeL (i := 4) (v := ?_) rfl (by kernel_rfl) (by kernel_rfl) (by kernel_rfl) (by kernel_rfl) (fun _ _ _ h => h) (Or.inl ⟨by rfl, ?_⟩) hHeld ?_
                    rotate_left
                    · intro w hSw; (try dsimp only at hSw); go_simp; (try with_reducible rfl)
                    try simp only [Act.put, List.setIfInBounds_toArray, List.set_cons_zero, List.set_cons_succ]
                    refine wpAnyK_takeL (i := 5) (v := ?_) rfl (by kernel_rfl) (by kernel_rfl) (by kernel_rfl) (by kernel_rfl) (fun _ _ _ h => h) (Or.inl ⟨by rfl, ?_⟩) hHeld ?_
                    rotate_left
                    · intro w hSw; (try dsimp only at hSw); go_simp; (try with_reducible rfl)
                    try simp only [Act.put, List.setIfInBounds_toArray, List.set_cons_zero, List.set_cons_succ]
                    refine wpAnyK_takeL (i := 6) (v := ?_) rfl (by kernel_rfl) (by kernel_rfl) (by kernel_rfl) (by kernel_rfl) (fun _ _ _ h => h) (Or.inl ⟨by rfl, ?_⟩) hHeld ?_
                    rotate_left
                    · intro w hSw; (try dsimp only at hSw); go_simp; (try with_reducible rfl)
                    try simp only [Act.put, List.setIfInBounds_toArray, List.set_cons_zero, List.set_cons_succ]
                    refine wpAnyK_takeL (i := 7) (v := ?_) rfl (by kernel_rfl) (by kernel_rfl) (by kernel_rfl) (by kernel_rfl) (fun _ _ _ h => h) (Or.inl ⟨by rfl, ?_⟩) hHeld ?_
                    rotate_left
                    · intro w hSw; (try dsimp only at hSw); go_simp; (try with_reducible rfl)
                    try simp only [Act.put, List.setIfInBounds_toArray, List.set_cons_zero, List.set_cons_succ]
                    refine wpAnyK_takeL (i := 8) (v := ?_) rfl (by kernel_rfl) (by kernel_rfl) (by kernel_rfl) (by kernel_rfl) (fun _ _ _ h => h) (Or.inl ⟨by rfl, ?_⟩) hHeld ?_
                    rotate_left
                    · intro w hSw; (try dsimp only at hSw); go_simp; (try with_reducible rfl)
                    try simp only [Act.put, List.setIfInBounds_toArray, List.set_cons_zero, List.set_cons_succ]
                    clear hHeld
                    refine wpAnyK_ready (rs := [9]) (by kernel_rfl) (by simp) ?_
                    refine AllReadyK.consL (i := 9) rfl (fun K hK => ?_) ?_
                    · refine step_setK (i := b) (v := .int .i64 y2) rfl rfl BK.out rfl rfl CSZ.out (by kernel_rfl) rfl (by simp [Value.oneCell']) ?_
                      intro w20 hw1 hb1 ho1
                      have hy2 := Y.out.then_only ho1 (fun q e => by rw [e]; exact LRB.out)
                      have hs2 := SB.out.only ho1 (fun e => by have := NSR.out; have e5 : sb = rb := e; omega)
                      have hx2 := XB.out.only ho1 (fun e => by have := NXR.out; have e5 : xb = rb := e; omega)
                      have hrr : RowI w20 rb ((v.set a y1).set b y2) := ⟨_, hb1, HSE.out.1, HSE.out.2⟩
                      clear hw1 SB Y XB BK ho1 hb1 HSE CSZ
                      have RB := Lib.hid hrr
                      have SB := Lib.hid hs2
                      have Y := Lib.hid hy2
                      have XB := Lib.hid hx2
                      clear hrr hs2 hy2 hx2
                      refine hK.out _ _ (fun h => absurd h (by decide)) (fun hHeld2 => ?_)
                      clear hK K hHeld2
                      try clear hHeld
                      try simp only [Act.put, List.setIfInBounds_toArray, List.set_cons_zero, List.set_cons_succ]
                      refine wpAnyK_done (by kernel_rfl) ?_ _
                      go_wp2
                      go_roundw
                      case rel => exact ⟨k + 1, (v.set a y1).set b y2, by omega, by go_num, Lib.hid ⟨vF, HTL.out, HVF.out⟩, Lib.hid (by rw [List.length_set, List.length_set]; exact HVL.out), HNEW, RB, SB, Y⟩
                      case measure => simp [intOf]; omega
                    · exact AllReadyK.nil
                  · exact AllReadyK.nil
              · obtain rfl : k = ps.length := by omega
                have hv0 : ∀ k, k < i → gI v k = 0 := by
                  obtain ⟨vF, h1, _, h3⟩ := HST.out
                  rw [List.drop_length] at h1
                  cases h1
                  exact h3
                have HV0 := Lib.hid hv0
                clear hv0 hkl HST hk
                obtain ⟨w15, rfl⟩ : ∃ W, W = wr := ⟨wr, rfl⟩
                go_upto_region 38 with (fail)
                go_loopw [20] (fun t wr => ∃ j : Nat, j ≤ i ∧ t = .int .i64 j ∧ wr = w15) (fun t _ => i - (intOf t).toNat)
                case atStart => exact ⟨0, Nat.zero_le _, rfl, rfl⟩
                case round =>
                  obtain ⟨j, hj, rfl, rfl⟩ := hrel
                  by_cases hjl : j < i
                  · have c1 := RB.out.cell (i := j) (by rw [HVL.out]; exact hjl)
                    have c2 := SB.out.int (i := j) (by rw [HSL.out]; exact hjl)
                    rw [HV0.out j hjl] at c1
                    rw [HSZ.out j hjl] at c2
                    have j1 : (0:Int) ≤ (j:Int) := by omega
                    have j2 : (j:Int) < (i:Int) := by omega
                    go_wp2
                    go_roundw
                    case rel => exact ⟨j + 1, by omega, by go_num, by trivial⟩
                    case measure => simp [intOf]; omega
                  · obtain rfl : j = i := by omega
                    clear hjl hj
                    obtain ⟨w16, hw16⟩ : ∃ W, W = wr := ⟨wr, rfl⟩
                    rw [← hw16]
                    rw [← hw16] at RB SB Y
                    clear hw16
                    have hnpl : ((ps.length : Int) != (ps.length : Int)) = false := by simp
                    go_upto_region 48 with (first
                      | (with_reducible refine wpList_build0 tInts rfl rfl ?_
                         rintro v0 wv hxv hov
                         have XV := Lib.hid hxv
                         have V0 := Lib.hid hov
                         clear hxv hov)
                      | (have hv0 := V0.out
                         at_builtin
                         refine wpList_app tInts rfl rfl rfl hv0 rfl (HLI.out _ (Y.out.tr XV.out)).src (by simp [Value.oneCell']) (by simp; omega) XV.out.size ?_
                         rintro v1 w17 h1 h2 h3
                         have hx1 := ext_grown XV.out hv0 h2
                         rw [Nat.zero_add, List.nil_append, List.length_map] at h1
                         obtain ⟨rb2, rc2, rfl, hrb2, hrr⟩ := RowI.of_owns h1 (by rw [HLL.out]; omega)
                         rw [HLL.out]
                         have hrb3 := Nat.le_trans Y.out.size hrb2
                         clear V0 XV hv0 h1 h2 h3 RB SB
                         replace Y := Lib.hid (Y.out.ext hx1)
                         have RB := Lib.hid hrr
                         have LRB2 := Lib.hid hrb3
                         clear hrr hrb3
                         clear hx1 hrb2))
                    clear kz kz1 kz2
                    have hpi0 := PInv.start hln HLS.out
                    have hcnt0 : cnt l (2 ^ j - 1) ≤ (j : Int) := by
                      have h := cnt_card (v := l) (2 ^ j - 1)
                      rw [HLL.out] at h
                      have h2 := card_full j
                      omega
                    have PI0 := Lib.hid hpi0
                    have CN0 := Lib.hid hcnt0
                    clear hpi0 hcnt0
                    clear GR LR PIN HV0 HSZ
                    go_loopw [21, 22] (fun c t wr => ∃ (cn : Nat) (v : List Int), c = .int .i64 cn ∧ t = .int .i64 cn ∧ cn ≤ 10 ∧ Hid (PInv l cn v) ∧ Hid (isum v = 0) ∧ Hid (∀ u ∈ v, -1000 ≤ u ∧ u ≤ 1000) ∧ Hid (cnt v (2 ^ j - 1) + cn ≤ j) ∧ Hid (RowI wr rb2 v) ∧ Hid (Ext w10 wr)) (fun c _ _ => 20 - (intOf c).toNat)
                    case atStart => exact ⟨0, l, rfl, rfl, Nat.zero_le _, PI0.out, HLS.out, HLA.out, Lib.hid (by have := CN0.out; simpa using this), RB.out, Y.out⟩
                    case round =>
                      clear PI0 CN0 RB Y
                      obtain ⟨cn, v, rfl, rfl, hcn, PI, VZ, VA, CN, RB, Y⟩ := hrel
                      have hvl : v.length = j := by rw [PI.out.1]; exact HLL.out
                      have HVL2 := Lib.hid hvl
                      clear hvl
                      obtain ⟨w18, hw18⟩ : ∃ W, W = wr := ⟨wr, rfl⟩
                      rw [← hw18]
                      rw [← hw18] at RB Y
                      clear hw18
                      go_upto_region 50 with (fail)
                      go_loopw [23, 24, 25] (fun a b t wr => ∃ k : Nat, k ≤ j ∧ t = .int .i64 k ∧ Hid (RR2 w18.heap.size wr a b (oweI v k) (owdI v k)) ∧ Hid (Ext w18 wr)) (fun _ _ t _ => j - (intOf t).toNat)
                      case atStart => exact ⟨0, Nat.zero_le _, rfl, ⟨World.ownsRow_nil _ _ _ _, World.ownsRow_nil _ _ _ _, fun b hb => by cases hb⟩, Below.refl _ _⟩
                      case round =>
                        obtain ⟨k, hk, rfl, HR, X2⟩ := hrel
                        obtain ⟨a1, c1, hv1⟩ := row_form HR.out.o1
                        obtain ⟨a2, c2, hv2⟩ := row_form HR.out.o2
                        subst hv1
                        subst hv2
                        by_cases hkj : k < j
                        · --[
                          as_aux_lemma =>
                            have e1 := X2.out.cellSome (RB.out.cell (i := k) (by rw [HVL2.out]; exact hkj))
                            have s1 := oweI_succ v k
                            have s2 := owdI_succ v k
                            have n1 := oweI_len v k
                            have n2 := owdI_len v k
                            obtain ⟨vk, hvk⟩ : ∃ y, y = gI v k := ⟨_, rfl⟩
                            rw [← hvk] at e1 s1 s2
                            obtain ⟨os, hos⟩ : ∃ y, y = oweI v k := ⟨_, rfl⟩
                            obtain ⟨ds, hds⟩ : ∃ y, y = owdI v k := ⟨_, rfl⟩
                            rw [← hos] at s1 n1 HR ⊢
                            rw [← hds] at s2 n2 HR ⊢
                            have j1 : (0:Int) ≤ (k:Int) := by omega
                            have j2 : (k:Int) < (j:Int) := by omega
                            have HVK := Lib.hid hvk.symm
                            clear hvk hos hds
                            rcases Int.lt_trichotomy vk 0 with h | h | h
                            · rw [if_pos h] at s1
                              rw [if_neg (by omega)] at s2
                              have k1 : ¬ (0 < vk) := by omega
                              have S1 := Lib.hid s1
                              have S2 := Lib.hid s2
                              clear s1 s2
                              go_upto_region 54 with (
                                at_builtin
                                refine wpList_app tInts rfl rfl rfl (owns_ext HR.out.o1 (ext_lit _ _ _)) rfl (Src.lit _ [.int .i64 (k : Int)] 1 1 rfl 3 1) (by simp [Value.oneCell']) (by omega) (Nat.le_trans X2.out.size (by simp)) ?_
                                rintro v' w19 q1 q2 q3
                                have hx8 := ext_grown (X2.out.tr (ext_lit _ _ _)) (owns_ext HR.out.o1 (ext_lit _ _ _)) q2
                                have hr8 := (HR.out.ext (ext_lit _ _ _)).app1 q1 q2 q3
                                clear HR X2 q1 q2 q3 e1
                                have HR := Lib.hid hr8
                                have X2 := Lib.hid hx8
                                clear hr8 hx8)
                              have e1 := X2.out.cellSome (RB.out.cell (i := k) (by rw [HVL2.out]; exact hkj))
                              rw [HVK.out] at e1
                              go_wp2
                              go_roundw
                              case rel => exact ⟨k + 1, by omega, by go_num, by rw [S1.out, S2.out]; exact HR, X2⟩
                              case measure => simp [intOf]; omega
                            · rw [if_neg (by omega)] at s1
                              rw [if_neg (by omega)] at s2
                              have k1 : ¬ (0 < vk) := by omega
                              have k2 : ¬ (vk < 0) := by omega
                              have S1 := Lib.hid s1
                              have S2 := Lib.hid s2
                              clear s1 s2 h
                              go_wp2
                              go_roundw
                              case rel => exact ⟨k + 1, by omega, by go_num, by rw [S1.out, S2.out]; exact HR, X2⟩
                              case measure => simp [intOf]; omega
                            · rw [if_neg (by omega)] at s1
                              rw [if_pos h] at s2
                              have k2 : ¬ (vk < 0) := by omega
                              have S1 := Lib.hid s1
                              have S2 := Lib.hid s2
                              clear s1 s2
                              go_wp2_with (
                                at_builtin
                                refine wpList_app tInts rfl rfl rfl (owns_ext HR.out.o2 (ext_lit _ _ _)) rfl (Src.lit _ [.int .i64 (k : Int)] 1 1 rfl 3 1) (by simp [Value.oneCell']) (by omega) (Nat.le_trans X2.out.size (by simp)) ?_
                                rintro v' w19 q1 q2 q3
                                have hx8 := ext_grown (X2.out.tr (ext_lit _ _ _)) (owns_ext HR.out.o2 (ext_lit _ _ _)) q2
                                have hr8 := (HR.out.ext (ext_lit _ _ _)).app2 q1 q2 q3
                                clear HR X2 q1 q2 q3 e1
                                have HR := Lib.hid hr8
                                have X2 := Lib.hid hx8
                                clear hr8 hx8)
                              go_roundw
                              case rel => exact ⟨k + 1, by omega, by go_num, by rw [S1.out, S2.out]; exact HR, X2⟩
                              case measure => simp [intOf]; omega
                        · obtain rfl : k = j := by omega
                          clear hkj hk
                          have n1 := oweI_len v k
                          have n2 := owdI_len v k
                          obtain ⟨os, hos⟩ : ∃ y, y = oweI v k := ⟨_, rfl⟩
                          obtain ⟨ds, hds⟩ : ∃ y, y = owdI v k := ⟨_, rfl⟩
                          rw [← hos] at n1 HR ⊢
                          rw [← hds] at n2 HR ⊢
                          have HOS := Lib.hid hos
                          have HDS := Lib.hid hds
                          clear hos hds
                          by_cases hstop : os.length = 0 ∨ ds.length = 0
                          · have hall : ∀ q, q < v.length → gI v q = 0 := by
                              rcases hstop with h | h
                              · rw [HOS.out, ← HVL2.out] at h
                                exact oweI_nil h VZ.out
                              · rw [HDS.out, ← HVL2.out] at h
                                exact owdI_nil h VZ.out
                            have hlast := PI.out.last hall
                            rw [← HC.out.many, HLL.out] at hlast
                            have hge : ps.length ≤ cn := by have := HNUM.out; omega
                            have t1 : ¬ (cn < ps.length) := by omega
                            have t2 : ((ps.length : Nat) : Int) ≤ (cn : Int) := by omega
                            clear hall hlast
                            rcases hstop with h | h
                            · have k1 : ((os.length : Int) == 0) = true := by rw [h]; rfl
                              have k1' : (os.length == 0) = true := by rw [h]; rfl
                              clear h
                              go_wp2_with (
                                go_at_call 14
                                refine (awake_any _).mono ?_
                                rintro e w20 ⟨rfl, hx20⟩
                                replace X2 := Lib.hid (X2.out.ext hx20)
                                clear hx20)
                              go_ret
                              exact HP.out _ _ ⟨rfl, (X.out.tr Y.out).tr X2.out⟩
                            · have k2 : ((ds.length : Int) == 0) = true := by rw [h]; rfl
                              clear h
                              by_cases h1 : os.length = 0
                              · have k1 : ((os.length : Int) == 0) = true := by rw [h1]; rfl
                                clear h1
                                go_wp2_with (
                                  go_at_call 14
                                  refine (awake_any _).mono ?_
                                  rintro e w20 ⟨rfl, hx20⟩
                                  replace X2 := Lib.hid (X2.out.ext hx20)
                                  clear hx20)
                                go_ret
                                exact HP.out _ _ ⟨rfl, (X.out.tr Y.out).tr X2.out⟩
                              · have k1 : ((os.length : Int) == 0) = false := by rw [beq_eq_false_iff_ne]; omega
                                clear h1
                                go_wp2_with (
                                  go_at_call 14
                                  refine (awake_any _).mono ?_
                                  rintro e w20 ⟨rfl, hx20⟩
                                  replace X2 := Lib.hid (X2.out.ext hx20)
                                  clear hx20)
                                go_ret
                                exact HP.out _ _ ⟨rfl, (X.out.tr Y.out).tr X2.out⟩
                          · have ho1 : 1 ≤ os.length := by omega
                            have hd1 : 1 ≤ ds.length := by omega
                            have k1 : ((os.length : Int) == 0) = false := by rw [beq_eq_false_iff_ne]; omega
                            have k2 : ((ds.length : Int) == 0) = false := by rw [beq_eq_false_iff_ne]; omega
                            clear hstop
                            obtain ⟨w21, hw21⟩ : ∃ W, W = wr := ⟨wr, rfl⟩
                            rw [← hw21]
                            rw [← hw21] at HR X2
                            clear hw21
                            obtain ⟨tt, htt⟩ : ∃ b, decide (0 < ys.length) = b := ⟨_, rfl⟩
                            have htt2 : decide ((0:Int) < (ys.length : Int)) = tt := by rw [← htt]; exact decide_eq_decide.2 (by omega)
                            have HTT := Lib.hid htt
                            go_upto_if 324 with (fail)
                            clear htt htt2
                            go_cut [26] from 325 to 331 (fun q W => ∃ x : Int, q = .int .i64 x ∧ Hid (I64 x) ∧ W = w21)
                            case first =>
                              as_aux_lemma =>
                                rename_i hR hK
                                cases tt
                                · refine wp_cond_false rfl ?_
                                  refine wp_skip ?_
                                  refine hK _ _ ?_
                                  go_meet
                                  case rel => exact ⟨0, rfl, Lib.hid (by unfold I64; omega), rfl⟩
                                · have hy := of_decide_eq_true HTT.out
                                  obtain ⟨yb, yo, rfl, hyc⟩ := Ints.cells HB.out (by omega)
                                  obtain ⟨q, hq⟩ : ∃ q, q = cn % ys.length := ⟨_, rfl⟩
                                  have hql : q < ys.length := by rw [hq]; exact Nat.mod_lt _ (by omega)
                                  have hqm : ((cn:Int)).tmod (ys.length : Int) = (q : Int) := by rw [hq, Int.ofNat_tmod]
                                  have e1 := ((X.out.tr Y.out).tr X2.out).cellSome (hyc q hql)
                                  have hi64 := HYS.out _ (List.getElem_mem hql)
                                  obtain ⟨x, hx⟩ : ∃ x, x = ys[q] := ⟨_, rfl⟩
                                  rw [← hx] at e1 hi64
                                  have HI64 := Lib.hid hi64
                                  have k5 : ((ys.length : Int) == 0) = false := by rw [beq_eq_false_iff_ne]; omega
                                  have k6 : (ys.length : Int) ≠ 0 := by omega
                                  have k7 : (0:Int) ≤ (q:Int) := by omega
                                  have k8 : (q:Int) < (ys.length : Int) := by omega
                                  clear hyc hx hq hi64 hy
                                  refine wp_cond_true rfl ?_
                                  go_wp2
                                  go_meet
                                  case rel => exact ⟨x, rfl, HI64, rfl⟩
                            case rest =>
                            obtain ⟨x, rfl, HXI, hwc⟩ := hcut
                            subst hwc
                            obtain ⟨w21, rfl⟩ : ∃ W, W = wc := ⟨wc, rfl⟩
                            obtain ⟨a1', c1', rfl⟩ : ∃ bb oo, a1 = some ⟨bb, oo, none⟩ := by
                              obtain ⟨bb, oo, h, _⟩ := Ints.cells (Sl.of_owns HR.out.o1 : Ints w21 _ os) ho1
                              exact ⟨bb, oo, h⟩
                            obtain ⟨a2', c2', rfl⟩ : ∃ bb oo, a2 = some ⟨bb, oo, none⟩ := by
                              obtain ⟨bb, oo, h, _⟩ := Ints.cells (Sl.of_owns HR.out.o2 : Ints w21 _ ds) hd1
                              exact ⟨bb, oo, h⟩
                            obtain ⟨_, _, e1, hoc⟩ := Ints.cells (Sl.of_owns HR.out.o1 : Ints w21 _ os) ho1
                            cases e1
                            obtain ⟨_, _, e2, hdc⟩ := Ints.cells (Sl.of_owns HR.out.o2 : Ints w21 _ ds) hd1
                            cases e2
                            have hpk1 := fun W => pick_any x os.length W HXI.out (by unfold I64; omega)
                            have hpr1 := pick_pos x os.length (by omega)
                            obtain ⟨p1, hp1⟩ : ∃ y, y = pick x os.length := ⟨_, rfl⟩
                            rw [← hp1] at hpk1 hpr1
                            obtain ⟨q1, hq1⟩ := Int.eq_ofNat_of_zero_le hpr1.1
                            rw [hq1] at hpk1
                            have hq1l : q1 < os.length := by omega
                            have hx7b : I64 (x.tdiv 7) := tdiv7 HXI.out
                            obtain ⟨x7, hx7⟩ : ∃ y, y = x.tdiv 7 := ⟨_, rfl⟩
                            rw [← hx7] at hx7b
                            have k7 : IntKind.i64.wrap x7 = x7 := i64_eq _ hx7b
                            have k7' : wrap64 x7 = x7 := by have := hx7b; unfold I64 at this; unfold wrap64; omega
                            have k7'' : x.tdiv 7 = x7 := hx7.symm
                            have hpk2 := fun W => pick_any x7 ds.length W hx7b (by unfold I64; omega)
                            have hpr2 := pick_pos x7 ds.length (by omega)
                            obtain ⟨p2, hp2⟩ : ∃ y, y = pick x7 ds.length := ⟨_, rfl⟩
                            rw [← hp2] at hpk2 hpr2
                            obtain ⟨q2, hq2⟩ := Int.eq_ofNat_of_zero_le hpr2.1
                            rw [hq2] at hpk2
                            have hq2l : q2 < ds.length := by omega
                            have c1 := hoc q1 hq1l
                            have c2 := hdc q2 hq2l
                            obtain ⟨a, ha, ha2, ha3⟩ := oweI_mem (v := v) (j := k) (x := os[q1]) (by rw [← HOS.out]; exact List.getElem_mem hq1l)
                            obtain ⟨b, hb, hb2, hb3⟩ := owdI_mem (v := v) (j := k) (x := ds[q2]) (by rw [← HDS.out]; exact List.getElem_mem hq2l)
                            rw [ha2] at c1
                            rw [hb2] at c2
                            have hab : a ≠ b := fun e => by subst e; omega
                            have hbva := gI_abs VA.out a
                            have hbvb := gI_abs VA.out b
                            have hrb21 := RB.out.ext X2.out
                            have hy21 := Y.out.tr X2.out
                            have ca := hrb21.cell (i := a) (by rw [HVL2.out]; exact ha)
                            have cb := hrb21.cell (i := b) (by rw [HVL2.out]; exact hb)
                            obtain ⟨va, hva⟩ : ∃ y, y = gI v a := ⟨_, rfl⟩
                            obtain ⟨vb, hvb⟩ : ∃ y, y = gI v b := ⟨_, rfl⟩
                            obtain ⟨pn, hpn⟩ : ∃ y, y = min (-va) vb := ⟨_, rfl⟩
                            obtain ⟨y1, hy1⟩ : ∃ y, y = va + pn := ⟨_, rfl⟩
                            obtain ⟨y2, hy2⟩ : ∃ y, y = vb - pn := ⟨_, rfl⟩
                            have hws := way_step PI.out HVL2.out VZ.out ha hb ha3 hb3 (p := pn) (x := y1) (y := y2) (by rw [hpn, hva, hvb]) (by rw [hy1, hva]) (by rw [hy2, hvb]) CN.out
                            have hvb2 : gI (v.set a y1) b = vb := by rw [gI_setN _ _ _ _ (by rw [HVL2.out]; exact ha), if_neg (show ¬ b = a from fun e => hab e.symm), hvb]
                            rw [← hva] at ca ha3 hbva
                            rw [← hvb] at cb hb3 hbvb
                            have hnew : ∀ u ∈ (v.set a y1).set b y2, -1000 ≤ u ∧ u ≤ 1000 := fun u hu => by
                              rcases List.mem_or_eq_of_mem_set hu with hu | rfl
                              · rcases List.mem_or_eq_of_mem_set hu with hu | rfl
                                · exact VA.out u hu
                                · omega
                              · omega
                            obtain ⟨w1, w2, w3, w4⟩ := hws
                            have hcn8 : cn + 1 ≤ 10 := by omega
                            have ja1 : (0:Int) ≤ (a:Int) := by omega
                            have ja2 : (a:Int) < (k:Int) := by omega
                            have jb1 : (0:Int) ≤ (b:Int) := by omega
                            have jb2 : (b:Int) < (k:Int) := by omega
                            have jq1 : (0:Int) ≤ (q1:Int) := by omega
                            have jq2 : (q1:Int) < (os.length:Int) := by omega
                            have jq3 : (0:Int) ≤ (q2:Int) := by omega
                            have jq4 : (q2:Int) < (ds.length:Int) := by omega
                            have kw1 : IntKind.i64.wrap (va + pn) = y1 := by rw [hy1]; exact i64_eq _ ⟨by omega, by omega⟩
                            have kw2 : IntKind.i64.wrap (vb - pn) = y2 := by rw [hy2]; exact i64_eq _ ⟨by omega, by omega⟩
                            obtain ⟨hbva1, hbva2⟩ := hbva
                            obtain ⟨hbvb1, hbvb2⟩ := hbvb
                            have hpnb : -1000 ≤ pn ∧ pn ≤ 1000 := by omega
                            obtain ⟨hpn1, hpn2⟩ := hpnb
                            have HVA2 := Lib.hid hva.symm
                            have HVB2 := Lib.hid hvb2
                            have HNEW := Lib.hid hnew
                            have HPN := Lib.hid hpn
                            have HHA := Lib.hid ha
                            have HHB := Lib.hid hb
                            have HPK1 := Lib.hid hpk1
                            have HPK2 := Lib.hid hpk2
                            have W1 := Lib.hid w1
                            have W2 := Lib.hid w2
                            have W3 := Lib.hid w3
                            have RB2 := Lib.hid hrb21
                            have Y2 := Lib.hid hy21
                            clear hpk1 hpk2 w1 w2 w3 hrb21 hy21
                            clear w4 hoc hdc hp1 hq1 hpr1 hp2 hq2 hpr2 hx7 hx7b hva hvb hpn hvb2 hnew ha2 hb2 hab hy1 hy2 PI VZ VA CN RB Y X2 HR HOS HDS
                            go_upto_region 62 with (first
                              | (go_at_call 24
                                 refine (HPK1.out _).mono ?_
                                 rintro e w22 ⟨rfl, rfl⟩
                                 clear HPK1)
                              | (go_at_call 24
                                 refine (HPK2.out _).mono ?_
                                 rintro e w22 ⟨rfl, rfl⟩))
                            clear c1 c2 k7 k7' k7''
                            go_quiet (fail)
                            rw [show (if vb < -va then vb else -va) = pn by rw [HPN.out]; split <;> omega]
                            have hxq : Ext w21 (w21.drewN nq) := Ext.of_drewN _ _
                            replace RB2 := Lib.hid (RB2.out.ext hxq)
                            replace Y2 := Lib.hid (Y2.out.ext hxq)
                            generalize w21.drewN nq = w22 at *
                            clear hxq ca cb
                            obtain ⟨cs, hbk, hcs, hcv⟩ := RB2.out
                            have ca := RB2.out.cell (i := a) (by rw [HVL2.out]; exact HHA.out)
                            rw [HVA2.out] at ca
                            have hcsz : a < cs.size := by rw [HVL2.out] at hcs; have := HHA.out; omega
                            have hse := RowI.set_cs hcs hcv (j := a) (by rw [HVL2.out]; exact HHA.out) y1
                            clear hcs hcv RB2
                            have BK := Lib.hid hbk
                            have CSZ := Lib.hid hcsz
                            have HSE := Lib.hid hse
                            clear hbk hcsz hse
                            go_upto_region 64 with (
                              with_reducible refine wpList_setK (i := a) (v := .int .i64 y1) rfl rfl BK.out ?_ ?_ ?_ ?_ ?_ ?_ ?_
                              · rfl
                              · rfl
                              · exact CSZ.out
                              · kernel_rfl
                              · rfl
                              · rfl
                              rintro w23 hb23 ho23
                              have hrr : RowI w23 rb2 (v.set a y1) := ⟨_, hb23, HSE.out.1, HSE.out.2⟩
                              have hy2 := Y2.out.then_only ho23 (fun q e => by rw [e]; exact LRB2.out)
                              clear Y2 BK HSE CSZ hb23 ho23 ca
                              have RB2 := Lib.hid hrr
                              have Y2 := Lib.hid hy2
                              clear hrr hy2)
                            obtain ⟨cs2, hbk, hcs, hcv⟩ := RB2.out
                            have cb := RB2.out.cell (i := b) (by rw [List.length_set, HVL2.out]; exact HHB.out)
                            rw [HVB2.out] at cb
                            have hcsz : b < cs2.size := by rw [List.length_set, HVL2.out] at hcs; have := HHB.out; omega
                            have hse := RowI.set_cs hcs hcv (j := b) (by rw [List.length_set, HVL2.out]; exact HHB.out) y2
                            clear hcs hcv RB2
                            have BK := Lib.hid hbk
                            have CSZ := Lib.hid hcsz
                            have HSE := Lib.hid hse
                            clear hbk hcsz hse
                            go_wp2_with (
                              with_reducible refine wpList_setK (i := b) (v := .int .i64 y2) rfl rfl BK.out ?_ ?_ ?_ ?_ ?_ ?_ ?_
                              · rfl
                              · rfl
                              · exact CSZ.out
                              · kernel_rfl
                              · rfl
                              · rfl
                              rintro w24 hb24 ho24
                              have hrr : RowI w24 rb2 ((v.set a y1).set b y2) := ⟨_, hb24, HSE.out.1, HSE.out.2⟩
                              have hy2 := Y2.out.then_only ho24 (fun q e => by rw [e]; exact LRB2.out)
                              clear Y2 BK HSE CSZ hb24 ho24 cb
                              have RB2 := Lib.hid hrr
                              have Y2 := Lib.hid hy2
                              clear hrr hy2)
                            go_roundw
                            case rel => exact ⟨cn + 1, (v.set a y1).set b y2, by go_num, by go_num, hcn8, Lib.hid (by have := W1.out; push_cast; exact this), W2, HNEW, Lib.hid (by have := W3.out; push_cast; exact this), RB2, Y2⟩
                            case measure => simp [intOf]; omega
  · have i1 : (ns.length : Int) < 1 ∨ (9:Int) < (ns.length : Int) := by omega
    clear q1
    rcases i1 with i1 | i1
    · go_enter Try.func5, Try.ntmps5
      go_wp2_with (go_at_call 14; refine (awake_any _).mono ?_; rintro e w6 ⟨rfl, hx6⟩)
      go_ret
      exact HP.out _ _ ⟨rfl, hx6⟩
    · have i2 : ¬ ((ns.length : Int) < 1) := by omega
      go_enter Try.func5, Try.ntmps5
      go_wp2_with (go_at_call 14; refine (awake_any _).mono ?_; rintro e w6 ⟨rfl, hx6⟩)
      go_ret
      exact HP.out _ _ ⟨rfl, hx6⟩
end Go.Proofs.Ytekplfbfkfiabaa
