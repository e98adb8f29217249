/- slices.Reverse at actions. Actions, breaks and copies lead from a right state to a right one, in plain words. press.Do, press.Safe. PressGuards: what each step of a round leads to. -/
import Derived.Test.YtojobdffnnibaaaGreatPSit
import Derived.Test.YtojobdffnnibaaaGreatJ4
import Derived.BigRegion
import Derived.Test.YtojobdffnnibaaaGreatJ8
import Derived.Test.YtojobdffnnibaaaGreatPBreak
import Derived.Test.YtojobdffnnibaaaGreatPPrint
import Derived.Test.YtojobdffnnibaaaGreatJ5
namespace Go.Proofs.YtojobdffnnibaaaGreat
open Go.RowKit
set_option linter.unusedVariables false
set_option linter.unusedSimpArgs false
def acC (x : Int × Int) : List Value := [.int .i64 x.1, .int .i64 x.2]
def acL (xs : List (Int × Int)) : List Value := xs.flatMap acC
theorem acL_len (xs : List (Int × Int)) : (acL xs).length = xs.length * 2 := by
 unfold acL
 induction xs with
 | nil => rfl
 | cons u us ih => rw [List.flatMap_cons, List.length_append, ih, List.length_cons, Nat.succ_mul]; simp [acC]; omega
theorem acL_get (xs : List (Int × Int)) (i j : Nat) (hi : i < xs.length) (hj : j < 2) : (acL xs)[i * 2 + j]? = (acC xs[i])[j]? := by
 have e : acL xs = (List.range xs.length).flatMap fun i => acC (xs.getD i default) := by
  unfold acL
  have h : xs = (List.range xs.length).map fun i => xs.getD i default := by
   apply List.ext_getElem
   · simp
   · intro k h1 h2; simp [h1]
  conv => lhs; rw [h]
  rw [List.flatMap_map]
 rw [e, flat_get (f := fun i => acC (xs.getD i default)) (fun _ => rfl) xs.length i j hi hj]; simp [List.getD, hi]
theorem acL_snoc (xs : List (Int × Int)) (x : Int × Int) : acL (xs ++ [x]) = acL xs ++ acC x := by unfold acL; rw [List.flatMap_append]; simp
theorem acL_set {xs : List (Int × Int)} {i : Nat} {x : Int × Int} (hi : i < xs.length) : ((acL xs).set (i * 2) (.int .i64 x.1)).set (i * 2 + 1) (.int .i64 x.2) = acL (xs.set i x) := by
 apply List.ext_getElem?; intro k
 by_cases hk : k < xs.length * 2
 {
 have hkd : k = k / 2 * 2 + k % 2 := (by omega); have h1 := acL_get xs (k / 2) (k % 2) (by omega) (by omega); have h2 := acL_get (xs.set i x) (k / 2) (k % 2) (by rw [List.length_set]; omega) (by omega); rw [← hkd] at h1 h2; rw [h2, List.getElem?_set, List.getElem?_set]
 by_cases e1 : k / 2 = i
 {
 simp only [e1, List.getElem_set_self]; have : k % 2 = 0 ∨ k % 2 = 1 := by omega
 rcases this with e2 | e2
 · rw [if_neg (by omega), if_pos (by omega), if_pos (by rw [acL_len]; omega), e2]; rfl
 · rw [if_pos (by omega), if_pos (by rw [List.length_set, acL_len]; omega), e2]; rfl
 }
 · rw [if_neg (by omega), if_neg (by omega), h1, List.getElem_set_ne (fun h => e1 h.symm)]
 }
 · rw [List.getElem?_eq_none (by rw [List.length_set, List.length_set, acL_len]; omega), List.getElem?_eq_none (by rw [acL_len, List.length_set]; omega)]
/-- k exchanges from the two ends inward. -/
def revK (xs : List (Int × Int)) (k : Nat) : List (Int × Int) := (List.range xs.length).map fun m => if m < k ∨ xs.length < m + 1 + k then xs.getD (xs.length - 1 - m) default else xs.getD m default
theorem revK_len (xs : List (Int × Int)) (k : Nat) : (revK xs k).length = xs.length := by simp [revK]
theorem revK_get (xs : List (Int × Int)) (k m : Nat) (h : m < (revK xs k).length) : (revK xs k)[m] = if m < k ∨ xs.length < m + 1 + k then xs.getD (xs.length - 1 - m) default else xs.getD m default := by
 simp only [revK, List.getElem_map, List.getElem_range]
theorem getD_at (xs : List (Int × Int)) (m : Nat) (h : m < xs.length) : xs.getD m default = xs[m] := by
 rw [List.getD_eq_getElem?_getD, List.getElem?_eq_getElem h]; rfl
theorem revK_zero (xs : List (Int × Int)) : revK xs 0 = xs := by
 apply List.ext_getElem
 · simp [revK]
 · intro m h1 h2
   rw [revK_get, if_neg (by omega), getD_at _ _ h2]
theorem revK_end (xs : List (Int × Int)) (k : Nat) (h : xs.length ≤ 2 * k + 1) : revK xs k = xs.reverse := by
 apply List.ext_getElem
 · simp [revK]
 {
 intro m h1 h2; rw [List.length_reverse] at h2; rw [revK_get, List.getElem_reverse]
 split
 · rw [getD_at _ _ (by omega)]
 · rw [getD_at _ _ h2]
   congr 1; omega
 }
theorem revK_at (xs : List (Int × Int)) (k : Nat) (h : 2 * k + 1 < xs.length) : (revK xs k)[k]'(by rw [revK_len]; omega) = xs[k] ∧ (revK xs k)[xs.length - 1 - k]'(by rw [revK_len]; omega) = xs[xs.length - 1 - k] := by
 constructor
 · rw [revK_get, if_neg (by omega), getD_at _ _ (by omega)]
 · rw [revK_get, if_neg (by omega), getD_at _ _ (by omega)]
theorem revK_at2 (xs : List (Int × Int)) (k j : Nat) (h : 2 * k + 1 < xs.length) (hj : xs.length - 1 - k = j) : (revK xs k)[j]'(by rw [revK_len]; omega) = xs[j]'(by omega) := by
 subst hj; exact (revK_at xs k h).2
theorem revK_succ (xs : List (Int × Int)) (k : Nat) (h : 2 * k + 1 < xs.length) : revK xs (k + 1) = ((revK xs k).set k xs[xs.length - 1 - k]).set (xs.length - 1 - k) xs[k] := by
 apply List.ext_getElem
 · simp [revK]
 {
 intro m h1 h2; rw [revK_len] at h1; rw [revK_get, List.getElem_set, List.getElem_set]
 by_cases e1 : xs.length - 1 - k = m
 · rw [if_pos e1, if_pos (by omega), getD_at _ _ (by omega)]
   congr 1; omega
 {
 rw [if_neg e1]
 by_cases e2 : k = m
 · rw [if_pos e2, if_pos (by omega), getD_at _ _ (by omega)]
   congr 1; omega
 {
 rw [if_neg e2, revK_get]
 by_cases e3 : m < k ∨ xs.length < m + 1 + k
 · rw [if_pos e3, if_pos (by omega)]
 · rw [if_neg e3, if_neg (by omega)]
 }
 }
 }
set_option maxRecDepth 100000 in
set_option maxHeartbeats 4000000 in
theorem reverse_any {B : Nat} (xs : List (Int × Int)) (v : Value) (w : World) (h : w.ownsRow B 72 2 v xs.length (acL xs)) (hl : xs.length ≤ 1000000) :
 Calls Tryz.prog 36 #[v] w fun e w' => e = .returned (.tuple #[]) ∧ w'.ownsRow B 72 2 v xs.length (acL xs.reverse) ∧ Only (fun b => v.ownBlock = some b) w w' := by
 obtain ⟨a, c, rfl⟩ := owns_form h; have h0 : w.ownsRow B 72 2 (.slice a xs.length c) xs.length (acL (revK xs 0)) := (by rw [revK_zero]; exact h); clear h; obtain ⟨N, hN⟩ : ∃ N, xs.length = N := ⟨_, rfl⟩; rw [hN] at h0 hl; rw [hN]; have H0 := Hd h0; have HN := Hd hN; clear h0 hN
 go_enter Tryz.func36, Tryz.ntmps36
 go_wp2
 go_loopw [2, 3] (fun s2 s3 wr => ∃ k : Nat, s2 = .int .i64 k ∧ s3 = .int .i64 ((N:Int) - 1 - k) ∧ 2 * k ≤ N + 1 ∧ Hid (wr.ownsRow B 72 2 (.slice a N c) N (acL (revK xs k))) ∧ Hid (Only (fun b => (Value.slice a N c).ownBlock = some b) w wr)) (fun s2 _ _ => N - (intOf s2).toNat)
 case atStart => exact ⟨0, rfl, by go_num, by omega, H0, Only.refl _ _⟩
 case round =>
  obtain ⟨k, rfl, rfl, hk, HR, HW⟩ := hrel
  by_cases hlt : 2 * k + 1 < N
  {
  have hxl : xs.length = N := HN.out; obtain ⟨g, cc, cur, hv, hb, hroom, hcur⟩ := owns_blkN HR.out (by omega)
  cases hv
  have hat1 := (revK_at xs k (by omega)).1; obtain ⟨j, hj⟩ : ∃ j : Nat, xs.length - 1 - k = j := ⟨_, rfl⟩; have hjl : j < xs.length := (by omega); have hkl : k < xs.length := (by omega); have hat2 := revK_at2 xs k j (by omega) hj; have hsu := revK_succ xs k (by omega); simp only [hj] at hsu; have hlen := revK_len xs k; have hcells := owns_at HR.out rfl; have ga := acL_get (revK xs k) k; have gb := acL_get (revK xs k) j; have hjj : (N:Int) - 1 - k = (j:Int) := (by omega); have e0 := hcells (k * 2) (.int .i64 xs[k].1) (by have := ga 0 (by omega) (by omega); rw [Nat.add_zero] at this; rw [this, hat1]; rfl); have e1 := hcells (k * 2 + 1) (.int .i64 xs[k].2) (by have := ga 1 (by omega) (by omega); rw [this, hat1]; rfl); have e2 := hcells (j * 2) (.int .i64 xs[j].1) (by have := gb 0 (by omega) (by omega); rw [Nat.add_zero] at this; rw [this, hat2]; rfl); have e3 := hcells (j * 2 + 1) (.int .i64 xs[j].2) (by have := gb 1 (by omega) (by omega); rw [this, hat2]; rfl); obtain ⟨⟨a1, a2⟩, hx1⟩ : ∃ x, xs[k] = x := ⟨_, rfl⟩; obtain ⟨⟨b1, b2⟩, hx2⟩ : ∃ x, xs[j] = x := ⟨_, rfl⟩; rw [hx1] at e0 e1 hsu; rw [hx2] at e2 e3 hsu; dsimp only at e0 e1 e2 e3; clear ga gb hat1 hat2 hcells hx1 hx2; have i1 : (0:Int) ≤ (k:Int) := (by omega); have i2 : (k:Int) < (N:Int) := (by omega); have i3 : (0:Int) ≤ (j:Int) := (by omega); have i4 : (j:Int) < (N:Int) := (by omega); have i5 : (k:Int) < (j:Int) := (by omega); have hjn : j < N := (by omega); have hkn : k < N := (by omega); rw [hjj]; have fr := hb.free; have BB := Hd hb; have SUC := Hd hsu; have LEN := Hd hlen; have JJ := Hd hjj; clear hb hsu hlen hjj; clear hj hxl
  go_upto_region 3 with (fail)
  go_region
  have B1 := blk_set BB.out (k * 2) (.int .i64 b1); have O1 := owns_putN HR.out BB.out B1; have B2 := blk_set B1 (k * 2 + 1) (.int .i64 b2); have O2 := owns_putN O1 B1 B2; have B3 := blk_set B2 (j * 2) (.int .i64 a1); have O3 := owns_putN O2 B2 B3; have B4 := blk_set B3 (j * 2 + 1) (.int .i64 a2); have O4 := owns_putN O3 B3 B4; have h1 := acL_set (xs := revK xs k) (i := k) (x := (b1, b2)) (by rw [LEN.out]; exact hkl); have h2 := acL_set (xs := (revK xs k).set k (b1, b2)) (i := j) (x := (a1, a2)) (by rw [List.length_set, LEN.out]; exact hjl); dsimp only at h1 h2; rw [h1, h2, ← SUC.out] at O4; have hS : (Value.slice (some ⟨g, 0, none⟩) N c).ownBlock = some g := rfl; have hO := (((HW.out.tr (Only.set _ ⟨g, k * 2, none⟩ (.int .i64 b1) hS)).tr (Only.set _ ⟨g, k * 2 + 1, none⟩ (.int .i64 b2) hS)).tr (Only.set _ ⟨g, j * 2, none⟩ (.int .i64 a1) hS)).tr (Only.set _ ⟨g, j * 2 + 1, none⟩ (.int .i64 a2) hS); have hd : ∀ W : World, Ext W W.drew := fun W => (Below.refl _ W).drew; have O5 := owns_ext O4 (hd _); have O6 := hO.tr (Only.of_ext (hd _)); clear B1 O1 B2 O2 B3 O3 B4 O4 hO hS e0 e1 e2 e3 fr h1 h2; generalize World.drew _ = wz at *; clear hd; have OW := Hd O5; have ON := Hd O6; clear O5 O6; have hk2 : 2 * (k + 1) ≤ N + 1 := (by omega); go_wp2
  go_roundw
  case rel => exact ⟨k + 1, by go_num, by have := JJ.out; first | go_num | (congr 1; omega), hk2, OW, ON⟩
  case measure => simp [intOf] <;> omega
  }
  {
  have i2 : decide ((k:Int) < ((N:Int) - 1 - k)) = false := decide_eq_false (by omega); have hend := HR.out; rw [revK_end xs k (by rw [HN.out]; omega)] at hend; have HEND := Hd hend; clear hend; go_wp2
  go_end0
  exact ⟨rfl, HEND.out, HW.out⟩
  }
end Go.Proofs.YtojobdffnnibaaaGreat
namespace Go.Proofs.YtojobdffnnibaaaGreat
set_option linter.unusedVariables false
/-- What a right state is, limb by limb. -/
structure Good (p : PressD) (s : StD) : Prop where
 pe : pErr p = 0
 len : s.units.length = p.jam.length
 dr : 0 ≤ s.drive ∧ s.drive ≤ 2
 fr : 0 ≤ s.fresh ∧ s.fresh ≤ 1000000
 run : s.drive ≠ 2 → s.fresh = 0
 ink : ∀ u ∈ s.units, 0 ≤ u.ink ∧ u.ink ≤ 1000000
 shut : s.drive ≠ 0 → s.folder = false ∧ ∀ u ∈ s.units, u.op = false
 web : ∀ u ∈ s.units, u.pr = true → u.th = true ∧ s.drive ≠ 0
 some_ : s.drive = 2 → ∃ u ∈ s.units, u.pr = true
theorem good_iff (p : PressD) (s : StD) : stErr p s = 0 ↔ Good p s := by
 constructor
 {
 intro h; obtain ⟨h1, h2, h3⟩ := stErr_ok h; obtain ⟨d1, d2, d3⟩ := shaped_nums h2; have hl := shaped_len h2; unfold shapedD at h2; simp only [Bool.and_eq_true, Bool.not_eq_true', Bool.and_eq_false_iff, bne_eq_false_iff_eq] at h2; unfold safeD opened anyPr at h3; simp only [Bool.and_eq_true, Bool.not_eq_true', Bool.and_eq_false_iff, bne_eq_false_iff_eq, Bool.or_eq_false_iff, Bool.or_eq_true, bne_iff_ne] at h3; obtain ⟨⟨g1, g2⟩, g3⟩ := h3; refine ⟨h1, hl, d1, d2, fun hd => ?_, d3, fun hd => ?_, fun u hu hp => ?_, fun hd => ?_⟩
 {
 rcases h2.1.2 with h | h
 · exact absurd h hd
 · exact h
 }
 {
 rcases g1 with h | h
 · exact absurd h hd
 · exact ⟨h.1, fun u hu => by have := List.any_eq_false.1 h.2 u hu; simpa using this⟩
 }
 { have := List.any_eq_false.1 g2 u hu; rw [hp] at this; simp at this; exact ⟨this.1, this.2⟩ }
 {
 rcases g3 with h | h
 · exact absurd hd h
 · obtain ⟨u, hu, hp⟩ := List.any_eq_true.1 h
   exact ⟨u, hu, hp⟩
 }
 }
 {
 rintro ⟨h1, hl, d1, d2, d3, d4, g1, g2, g3⟩
 have hs : shapedD p s = true := by
  unfold shapedD okInk; simp only [Bool.and_eq_true, decide_eq_true_eq, beq_iff_eq, Bool.not_eq_true', Bool.and_eq_false_iff, bne_eq_false_iff_eq, List.all_eq_true]; refine ⟨⟨⟨⟨hl, d1⟩, d2⟩, ?_⟩, fun u hu => d4 u hu⟩
  by_cases h : s.drive = 2
  · exact .inl h
  · exact .inr (d3 h)
 have hf : safeD s = true := by
  unfold safeD opened anyPr; simp only [Bool.and_eq_true, Bool.not_eq_true', Bool.and_eq_false_iff, bne_eq_false_iff_eq, Bool.or_eq_false_iff, Bool.or_eq_true, bne_iff_ne]; refine ⟨⟨?_, ?_⟩, ?_⟩
  {
  by_cases h : s.drive = 0
  · exact .inl h
  · exact .inr ⟨(g1 h).1, List.any_eq_false.2 fun u hu => by simp [(g1 h).2 u hu]⟩
  }
  {
  refine List.any_eq_false.2 fun u hu => ?_
  by_cases hp : u.pr = true
  · have := g2 u hu hp
    simp [this.1, this.2]
  · simp [hp]
  }
  {
  by_cases h : s.drive = 2
  · obtain ⟨u, hu, hp⟩ := g3 h
    exact .inr (List.any_eq_true.2 ⟨u, hu, hp⟩)
  · exact .inl h
  }
 unfold stErr; rw [if_neg (by simp [h1]), hs, hf]; rfl
 }
theorem begin_good {p : PressD} (h : pErr p = 0) : Good p (beginD p) := by
 refine ⟨h, by simp [beginD], by simp [beginD], by simp [beginD], fun _ => rfl, fun u hu => ?_, fun hd => absurd rfl hd, fun u hu hp => ?_, fun hd => ?_⟩
 · have := List.eq_of_mem_replicate hu
   subst this; simp
 · have := List.eq_of_mem_replicate hu
   subst this; cases hp
 · cases hd
theorem mem_set' {α : Type} {l : List α} {i : Nat} {v u : α} (h : u ∈ l.set i v) : u = v ∨ u ∈ l := by
 rcases List.mem_or_eq_of_mem_set h with h | h
 · exact .inr h
 · exact .inl h
theorem getD_mem {s : StD} {i : Nat} (h : i < s.units.length) : s.units.getD i default ∈ s.units := by
 rw [List.getD_eq_getElem?_getD, List.getElem?_eq_getElem h]; exact List.getElem_mem h
theorem other_pr {us : List UnitD} {i : Nat} (hi : i < us.length) (hp : us[i].pr = true) (h : 1 < (us.filter (·.pr)).length) : ∃ u ∈ us.set i (unitD 6 us[i]), u.pr = true := by
 apply Classical.byContradiction; intro hn
 have hno : ∀ j (hj : j < us.length), j ≠ i → us[j].pr = false := fun j hj hne => by
  cases hb : us[j].pr
  rfl
  · exact absurd ⟨us[j], by rw [List.mem_iff_getElem]; exact ⟨j, by rw [List.length_set]; exact hj, by rw [List.getElem_set_ne (fun e => hne e.symm)]⟩, hb⟩ hn
 have e : us = us.take i ++ us[i] :: us.drop (i + 1) := by rw [List.getElem_cons_drop, List.take_append_drop]
 have h1 : (us.take i).filter (·.pr) = [] := by
  rw [List.filter_eq_nil_iff]; intro u hu; obtain ⟨j, hj, rfl⟩ := List.mem_iff_getElem.1 hu; rw [List.length_take] at hj; rw [List.getElem_take, hno j (by omega) (by omega)]; simp
 have h2 : (us.drop (i + 1)).filter (·.pr) = [] := by
  rw [List.filter_eq_nil_iff]; intro u hu; obtain ⟨j, hj, rfl⟩ := List.mem_iff_getElem.1 hu; rw [List.length_drop] at hj; rw [List.getElem_drop, hno (i + 1 + j) (by omega) (by omega)]; simp
 rw [e, List.filter_append, List.filter_cons, h1, h2, if_pos hp] at h; simp at h
theorem act_good {p : PressD} {s : StD} {k x : Int} (g : Good p s) (h : actErr p s k x = 0) : Good p (doD s k x.toNat) := by
 have h' := h; unfold actErr at h
 split at h
 · simp at h
 rename_i hk
 split at h
 · simp at h
 rename_i hx
 have ha : allowD p s k x.toNat = true := by
  split at h
  · assumption
  · simp at h
 clear h; obtain ⟨i, hi⟩ : ∃ i, x.toNat = i := ⟨_, rfl⟩; rw [hi] at ha ⊢; have hil : i < s.units.length := (by omega); obtain ⟨u, hu⟩ : ∃ u, s.units.getD i default = u := ⟨_, rfl⟩; have hum : u ∈ s.units := (by rw [← hu]; exact getD_mem hil); have hui : s.units[i] = u := (by rw [← hu, List.getD_eq_getElem?_getD, List.getElem?_eq_getElem hil]; rfl); obtain ⟨h1, hl, d1, d2, d3, d4, g1, g2, g3⟩ := g; have hkk : k = 1 ∨ k = 2 ∨ k = 3 ∨ k = 4 ∨ k = 5 ∨ k = 6 ∨ k = 7 ∨ k = 8 ∨ k = 9 ∨ k = 10 ∨ k = 11 ∨ k = 12 := by omega
 -- a tower turned: what is asked of it alone
 have turn : ∀ v : UnitD, (0 ≤ v.ink ∧ v.ink ≤ 1000000) → (s.drive ≠ 0 → v.op = false) → (v.pr = true → v.th = true ∧ s.drive ≠ 0) → (s.drive = 2 → ∃ z ∈ s.units.set i v, z.pr = true) → Good p { s with units := s.units.set i v } := fun v k1 k2 k3 k4 => by
  refine ⟨h1, by simpa using hl, d1, d2, d3, fun z hz => ?_, fun hd => ⟨(g1 hd).1, fun z hz => ?_⟩, fun z hz hp => ?_, k4⟩
  {
  rcases mem_set' hz with rfl | hz
  · exact k1
  · exact d4 z hz
  }
  {
  rcases mem_set' hz with rfl | hz
  · exact k2 hd
  · exact (g1 hd).2 z hz
  }
  {
  rcases mem_set' hz with rfl | hz
  · exact k3 hp
  · exact g2 z hz hp
  }
 have i0 := d4 u hum
 rcases hkk with rfl | rfl | rfl | rfl | rfl | rfl | rfl | rfl | rfl | rfl | rfl | rfl
 all_goals
  unfold allowD at ha; unfold doD; rw [hu] at ha ⊢; simp at ha; simp only [unitD]; simp only [Int.reduceEq, if_true, if_false]
 · exact turn _ i0 (fun hd => absurd ha.1 hd) (fun hp => g2 u hum hp) (fun hd => by omega)
 · exact turn _ i0 (fun _ => rfl) (fun hp => g2 u hum hp) (fun hd => by have := (g1 (by omega)).2 u hum; rw [ha] at this; cases this)
 · exact turn _ i0 (fun hd => (g1 hd).2 u hum) (fun hp => ⟨rfl, by omega⟩) (fun hd => by omega)
 · exact turn _ ⟨by simp, by simp⟩ (fun hd => (g1 hd).2 u hum) (fun hp => g2 u hum hp) (fun hd => by omega)
 · exact turn _ i0 (fun hd => (g1 hd).2 u hum) (fun hp => ⟨ha.1.1.2, ha.1.1.1⟩) (fun hd => ⟨_, List.mem_iff_getElem.2 ⟨i, by rw [List.length_set]; exact hil, List.getElem_set_self _⟩, rfl⟩)
 {
 refine turn _ i0 (fun hd => (g1 hd).2 u hum) (fun hp => by cases hp) (fun hd => ?_)
 have h6 : 1 < (s.units.filter (·.pr)).length := by
  rcases ha.2 with h | h
  · exact absurd hd h
  · exact h
 have := other_pr hil (by rw [hui]; exact ha.1) h6; rw [hui] at this; exact this
 }
 {
 exact ⟨h1, hl, by simp, by simp, fun _ => rfl, d4, fun _ => by
  have h7 := ha.2; unfold opened at h7; simp at h7
  exact ⟨h7.1, fun z hz => h7.2 z hz⟩, fun z hz hp => ⟨(g2 z hz hp).1, by simp⟩, fun hd => by simp at hd⟩
 }
 {
 exact ⟨h1, hl, by simp, by simp, fun _ => rfl, d4, fun _ => g1 (by omega), fun z hz hp => ⟨(g2 z hz hp).1, by simp⟩, fun _ => by
  have h7 := ha.2; unfold anyPr at h7; obtain ⟨z, hz, hp⟩ := List.any_eq_true.1 h7
  exact ⟨z, hz, hp⟩⟩
 }
 {
 exact ⟨h1, hl, by simp, by simp, fun _ => rfl, d4, fun hd => absurd rfl hd, fun z hz hp => by
  have h7 := ha.2; unfold anyPr at h7; have := List.any_eq_false.1 h7 z hz
  simp [hp] at this, fun hd => by simp at hd⟩
 }
 · exact ⟨h1, hl, d1, d2, d3, d4, fun hd => absurd ha.1 hd, g2, g3⟩
 · exact ⟨h1, hl, d1, d2, d3, d4, fun hd => ⟨rfl, (g1 hd).2⟩, g2, g3⟩
 · refine turn _ i0 (fun hd => absurd ha.1.1 hd) (fun hp => absurd ha.1.1 (g2 u hum hp).2) (fun hd => by omega)
/-- Something moves against an open guard, or an impression is on where no web is. -/
def againstD (s : StD) : Bool := (s.units.any fun u => (s.drive != 0 && u.op) || (u.pr && (!u.th || !(s.drive != 0)))) || ((s.drive != 0 && s.folder) || (s.drive == 2 && nPr s == 0))
end Go.Proofs.YtojobdffnnibaaaGreat
namespace Go.Proofs.YtojobdffnnibaaaGreat
open Go.RowKit
set_option linter.unusedVariables false
set_option linter.unusedSimpArgs false
/-- The state that comes with an error. -/
def zD : StD := ⟨0, false, [], 0⟩
/-- The error of Do, and the state. -/
def doErr (p : PressD) (s : StD) (k x : Int) : Int := if stErr p s ≠ 0 then stErr p s else actErr p s k x
def doS (p : PressD) (s : StD) (k x : Int) : StD := if doErr p s k x = 0 then doD s k x.toNat else zD
/-- The towers of a state lie in a row of the call's own. -/
def OwU (w : World) (v : Value) (s : StD) : Prop := w.ownsRow 0 82 5 v s.units.length (uL s.units)
def DoAns (w : World) (p : PressD) (s : StD) (k x : Int) (e : Ending) (w' : World) : Prop :=
 ∃ vu, e = .returned (.tuple #[sV vu (doS p s k x), .int .i64 (doErr p s k x)]) ∧ OwU w' vu (doS p s k x) ∧ Ext w w'
/-- The same, and the row is as new as the call. -/
def DoAnsF (w : World) (p : PressD) (s : StD) (k x : Int) (e : Ending) (w' : World) : Prop :=
 ∃ vu, e = .returned (.tuple #[sV vu (doS p s k x), .int .i64 (doErr p s k x)]) ∧ w'.ownsRow w.heap.size 82 5 vu (doS p s k x).units.length (uL (doS p s k x).units) ∧ Ext w w'
theorem DoAnsF.no {w w' : World} {p : PressD} {s : StD} {k x e1 : Int} (h : doErr p s k x = e1) (h0 : e1 ≠ 0) (h3 : Ext w w') : DoAnsF w p s k x (.returned (.tuple #[sZ, .int .i64 e1])) w' := by
 have h1 : doS p s k x = zD := (by unfold doS; rw [if_neg (by rw [h]; exact h0)]); exact ⟨.slice none 0 0, by rw [h1, h]; rfl, by rw [h1]; exact World.ownsRow_nil _ _ _ _, h3⟩
set_option maxRecDepth 100000 in
set_option maxHeartbeats 4000000 in
theorem do_own (p : PressD) (s : StD) (k x : Int) (vj vu : Value) (w : World) (hj : Truths w vj p.jam) (hu : UnIn w vu s.units) (hl : s.units.length ≤ 1000000) (hk : I64 k) :
 Calls Tryz.prog 61 #[pV vj p, sV vu s, .agg #[.int .i64 k, .int .i64 x]] w (DoAnsF w p s k x) := by
 have hst := fun w1 (k : Ext w w1) => start_any p s vj vu w1 (Sl.ext hj k) (hu.ext k) hl; obtain ⟨a, c, rfl, Hu⟩ := hu.form; obtain ⟨_, aj, cj, hvj, _⟩ := id hj; rw [List.length_map] at hvj; subst hvj; have HK := Hd hk; clear hk; clear hu hl Hu; unfold pV sV at *; obtain ⟨e1, he1⟩ : ∃ e, stErr p s = e := ⟨_, rfl⟩
 by_cases h1 : e1 = 0
 {
 subst h1; have hs := fun w1 (k : Ext w w1) => (hst w1 k).mono fun e w' (h : StartPost w1 p s _ e w') => (h.resolve_left fun h => h.1 he1).2; obtain ⟨hpe, hsh, hsf⟩ := stErr_ok he1; have huj := shaped_len hsh; have hul : s.units.length ≤ 3 := (by rw [huj]; exact (pErr_len hpe).2); have hde : doErr p s k x = actErr p s k x := (by unfold doErr; rw [if_neg (by rw [he1]; simp)]); obtain ⟨er, her⟩ : ∃ y, doErr p s k x = y := ⟨_, rfl⟩; rw [her] at hde; have hact := fun W mb pb ub c B vj (h : MOw B W mb pb ub c p s vj) => act_any k x h hul huj HK.out; unfold ActPost at hact; rw [← hde] at hact
 have hlen : (actD p s k x).units.length = s.units.length := by
  unfold actD
  split
  {
  unfold doD
  repeat' split
  all_goals (try rfl)
  dsimp only; rw [List.length_set]
  }
  rfl
 have HS := Hd hs; have HUL := Hd hul; have HUJ := Hd huj; have HER := Hd her; have HACT := Hd hact; have HDE := Hd hde; have HLEN := Hd hlen; clear hs hul huj her hact hde hlen; clear hst he1 hpe hsh hsf
 go_enter Tryz.func61, Tryz.ntmps61
 go_upto_region 1 with (first
  | (with_reducible refine wpList_boxA (t := 34) (cs := #[.slice aj p.jam.length cj, .int .i64 p.warm, .int .i64 p.tail, .int .i64 p.dirt]) rfl rfl rfl ?_
     rintro xb w1 hx1 hx2 hx3; have PB := Hd hx1; have X1 := Hd hx2; clear hx1 hx2
     clear hx3)
  | (with_reducible refine wpList_boxA (t := 38) (cs := #[.int .i64 s.drive, .bool s.folder, .slice a s.units.length c, .int .i64 s.fresh]) rfl rfl rfl ?_
     rintro sb w2 hy1 hy2 hy3; have pb2 := PB.out.ext hy2; have x2 := X1.out.tr hy2; clear PB X1; have SB := Hd hy1; have PB := Hd pb2; have X1 := Hd x2; clear hy1 pb2 x2
     clear hy3 hy2)
  | (with_reducible refine wpList_boxA (t := 72) (cs := #[.int .i64 k, .int .i64 x]) rfl rfl rfl ?_
     rintro zb w2 hy1 hy2 hy3; have pb2 := PB.out.ext hy2; have sb2 := SB.out.ext hy2; have x2 := X1.out.tr hy2; clear PB X1 SB; have SB := Hd sb2; have PB := Hd pb2; have X1 := Hd x2; have ZB := Hd hy1; clear sb2 pb2 x2 hy1
     clear hy3 hy2)
  | (with_reducible refine wpList_allocA (t := 38) rfl rfl Tryz.zeroValue38 ?_
     rintro rb w2 hy1 hy2 hy3; have c2 := (PB.out.ext hy2).cell; have c3 := (SB.out.ext hy2).cell; have zb2 := ZB.out.ext hy2; have x2 := X1.out.tr hy2; have l2 : w.heap.size ≤ rb := Nat.le_trans X1.out.size hy3; clear PB X1 SB ZB; have RB := Hd hy1; have X1 := Hd x2; have LR := Hd l2; have ZB := Hd zb2; clear hy1 x2 l2 zb2
     clear hy3 hy2))
 go_upto_region 3 with (
  have hgd := HS.out; go_at_call 31; refine (hgd _ X1.out).mono ?_; rintro e wB ⟨mb, pb, ub, c4, rfl, hmo, hx3⟩; have rb2 := RB.out.ext hx3; have zb2 := ZB.out.ext hx3; have lb := RB.out.lt; have lx := X1.out.size; have x2 := X1.out.tr hx3; have hmo2 := hmo; clear c2 c3 RB X1 hgd hx3 HS hmo ZB; have cz := zb2.cell; have RB := Hd rb2; have X1 := Hd x2; have HM := Hd hmo2; have LB := Hd lb; have LX := Hd lx
  clear rb2 x2 hmo2 lb lx)
 by_cases h2 : er = 0
 {
 subst h2; have hac : actD p s k x = doD s k x.toNat := (by unfold actD; rw [if_pos HDE.out.symm]); have hds : doS p s k x = doD s k x.toNat := by unfold doS; rw [if_pos HER.out]
 go_upto_region 6 with (
  have hgd := HACT.out; go_at_call 40; refine (hgd _ _ _ _ _ _ _ HM.out).mono ?_; rintro e w6 ⟨rfl, hm6, ho6⟩; have x2 := X1.out.then_only ho6 (fun b e => by rcases e with e | e <;> (have := hm6.lm; have := hm6.lu; have := LX.out; omega)); have rb2 := RB.out.only ho6 (fun e => by rcases e with e | e <;> (have := hm6.lm; have := hm6.lu; have := LB.out; omega)); clear hgd HACT X1 RB HM cz ho6; have X1 := Hd x2; have RB := Hd rb2; have HM := Hd hm6
  clear x2 rb2 hm6)
 have hm7 := HM.out; have hl7 := HLEN.out; rw [hac] at hm7 hl7; obtain ⟨S, hS⟩ : ∃ S, doD s k x.toNat = S := ⟨_, rfl⟩; rw [hS] at hm7 hl7 hds; have d := hm7.bm.cell; rw [hl7] at d; clear HM HLEN hac hS; have HM7 := Hd hm7; have HL7 := Hd hl7; have HDS := Hd hds; clear hm7 hl7 hds
 go_wp2_with (
  (with_reducible refine wpList_storeK (ty := 38) (cells := #[.int .i64 S.drive, .bool S.folder, .slice (some ⟨ub, 0, none⟩) s.units.length c4, .int .i64 S.fresh]) rfl rfl RB.out ?_ ?_ ?_ ?_ ?_ ?_); rfl; rfl; kernel_rfl; rfl; simp [Value.oneCell']; rintro w7 hb7 ho7; have k0 := hb7.cell; have x2 := X1.out.then_only ho7 (fun k (e : k = rb) => by rw [e]; exact LR.out); have how := owns_only HM7.out.own ho7 (fun b hb (e : b = rb) => by have h1 := (HM7.out.own.lt b hb).1; have h2 := LB.out; omega); clear X1 RB ho7 hb7 HM7 d; have X1 := Hd x2; have HOW := Hd how
  clear x2 how)
 refine bodyPost_ret (v := .tuple #[sV (.slice (some ⟨ub, 0, none⟩) s.units.length c4) S, .int .i64 0]) (by simp [results, Tryz.results61, go_sem, k0, sV]) rfl ?_; have h9 : w7.ownsRow w.heap.size 82 5 (.slice (some ⟨ub, 0, none⟩) S.units.length c4) S.units.length (uL S.units) := owns_weak HOW.out LX.out; rw [HL7.out] at h9; have h8 : w7.ownsRow w.heap.size 82 5 (.slice (some ⟨ub, 0, none⟩) s.units.length c4) S.units.length (uL S.units) := (by rw [HL7.out]; exact h9); exact ⟨_, by rw [HDS.out, HER.out], by rw [HDS.out]; exact h8, X1.out⟩
 }
 {
 have f1 : (er != 0) = true := (by simp [h2]); have h2' := h2; have H2 := Hd h2'; clear h2'
 go_wp2_with (first
  | (have hgd := HACT.out
     go_at_call 40; refine (hgd _ _ _ _ _ _ _ HM.out).mono ?_; rintro e w6 ⟨rfl, hm6, ho6⟩; have x2 := X1.out.then_only ho6 (fun b e => by rcases e with e | e <;> (have := hm6.lm; have := hm6.lu; have := LX.out; omega)); have rb2 := RB.out.only ho6 (fun e => by rcases e with e | e <;> (have := hm6.lm; have := hm6.lu; have := LB.out; omega)); clear hgd HACT X1 RB HM cz ho6 hm6; have X1 := Hd x2; have RB := Hd rb2
     clear x2 rb2)
  | (with_reducible refine wpList_storeK (ty := 38) (cells := #[.int .i64 0, .bool false, .slice none 0 0, .int .i64 0]) rfl rfl RB.out ?_ ?_ ?_ ?_ ?_ ?_
     rfl; rfl; kernel_rfl; rfl; simp [Value.oneCell']; rintro w7 hb7 ho7; have k0 := hb7.cell; have x2 := X1.out.then_only ho7 (fun k (e : k = rb) => by rw [e]; exact LR.out); clear X1 RB ho7 hb7; have X1 := Hd x2
     clear x2))
 refine bodyPost_ret (v := .tuple #[sZ, .int .i64 er]) (by simp [results, Tryz.results61, go_sem, k0, sZ]) rfl ?_; exact DoAnsF.no HER.out H2.out X1.out
 }
 }
 {
 have hpe : doErr p s k x = e1 := (by unfold doErr; rw [he1, if_pos h1]); have hs := fun w1 (k : Ext w w1) => (hst w1 k).mono fun e w' (h : StartPost w1 p s _ e w') => (h.resolve_right fun h => h1 (he1 ▸ h.1)).2; rw [he1] at hs; have f1 : (e1 != 0) = true := (by simp [h1]); have f2 : (e1 == 0) = false := (by simp [h1]); have HPE := Hd hpe; have H1 := Hd h1; have HS := Hd hs; clear hpe h1 hs; clear he1 hst
 go_enter Tryz.func61, Tryz.ntmps61
 go_upto_region 1 with (first
  | (with_reducible refine wpList_boxA (t := 34) (cs := #[.slice aj p.jam.length cj, .int .i64 p.warm, .int .i64 p.tail, .int .i64 p.dirt]) rfl rfl rfl ?_
     rintro xb w1 hx1 hx2 hx3; have PB := Hd hx1; have X1 := Hd hx2; clear hx1 hx2
     clear hx3)
  | (with_reducible refine wpList_boxA (t := 38) (cs := #[.int .i64 s.drive, .bool s.folder, .slice a s.units.length c, .int .i64 s.fresh]) rfl rfl rfl ?_
     rintro sb w2 hy1 hy2 hy3; have pb2 := PB.out.ext hy2; have x2 := X1.out.tr hy2; clear PB X1; have SB := Hd hy1; have PB := Hd pb2; have X1 := Hd x2; clear hy1 pb2 x2
     clear hy3 hy2)
  | (with_reducible refine wpList_boxA (t := 72) (cs := #[.int .i64 k, .int .i64 x]) rfl rfl rfl ?_
     rintro zb w2 hy1 hy2 hy3; have pb2 := PB.out.ext hy2; have sb2 := SB.out.ext hy2; have x2 := X1.out.tr hy2; clear PB X1 SB; have SB := Hd sb2; have PB := Hd pb2; have X1 := Hd x2; have ZB := Hd hy1; clear sb2 pb2 x2 hy1
     clear hy3 hy2)
  | (with_reducible refine wpList_allocA (t := 38) rfl rfl Tryz.zeroValue38 ?_
     rintro rb w2 hy1 hy2 hy3; have c2 := (PB.out.ext hy2).cell; have c3 := (SB.out.ext hy2).cell; have zb2 := ZB.out.ext hy2; have x2 := X1.out.tr hy2; have l2 : w.heap.size ≤ rb := Nat.le_trans X1.out.size hy3; clear PB X1 SB ZB; have RB := Hd hy1; have X1 := Hd x2; have LR := Hd l2; have ZB := Hd zb2; clear hy1 x2 l2 zb2
     clear hy3 hy2))
 go_wp2_with (first
  | (have hgd := HS.out
     go_at_call 31; refine (hgd _ X1.out).mono ?_; rintro e w3 ⟨rfl, hx3⟩; have x2 := X1.out.tr hx3; have rb2 := RB.out.ext hx3; clear c2 c3 RB X1 hgd hx3 HS; have X1 := Hd x2; have RB := Hd rb2
     clear x2 rb2)
  | (with_reducible refine wpList_storeK (ty := 38) (cells := #[.int .i64 0, .bool false, .slice none 0 0, .int .i64 0]) rfl rfl RB.out ?_ ?_ ?_ ?_ ?_ ?_
     rfl; rfl; kernel_rfl; rfl; simp [Value.oneCell']; rintro w7 hb7 ho7; have k0 := hb7.cell; have x2 := X1.out.then_only ho7 (fun k (e : k = rb) => by rw [e]; exact LR.out); clear X1 RB ho7 hb7; have X1 := Hd x2
     clear x2))
 refine bodyPost_ret (v := .tuple #[sZ, .int .i64 e1]) (by simp [results, Tryz.results61, go_sem, k0, sZ]) rfl ?_; exact DoAnsF.no HPE.out H1.out X1.out
 }
/-- What Safe answers. -/
def safeE (p : PressD) (s : StD) : Int := if pErr p ≠ 0 then pErr p else if shapedD p s then 0 else 9
def safeB (p : PressD) (s : StD) : Bool := decide (safeE p s = 0) && safeD s
set_option maxRecDepth 100000 in
set_option maxHeartbeats 4000000 in
theorem safe_any' (p : PressD) (s : StD) (vj vu : Value) (w : World) (hj : Truths w vj p.jam) (hu : UnIn w vu s.units) :
 Calls Tryz.prog 57 #[pV vj p, sV vu s] w fun e w' => e = .returned (.tuple #[.bool (safeB p s), .int .i64 (safeE p s)]) ∧ Ext w w' := by
 have hck := fun W (k : Ext w W) => check_any p vj W (Sl.ext hj k); have hsh := fun W (k : Ext w W) mb pb (h : MSt W mb pb p s vj vu) => mShaped mb pb p s vj vu W h; have hsf := fun W (k : Ext w W) mb pb (h : MSt W mb pb p s vj vu) => mSafe mb pb p s vj vu W h
 have hms := fun W (k : Ext w W) mb pb (h1 : Blk W mb #[.pointer (some ⟨pb, 0, none⟩), .int .i64 s.drive, .bool s.folder, vu, .int .i64 s.fresh] 139) (h2 : Blk W pb #[vj, .int .i64 p.warm, .int .i64 p.tail, .int .i64 p.dirt] 34) =>
  (⟨h1, h2, hu.ext k, Sl.ext hj k⟩ : MSt W mb pb p s vj vu)
 obtain ⟨a, c, rfl, Hu⟩ := hu.form; obtain ⟨_, aj, cj, hvj, _⟩ := hj; rw [List.length_map] at hvj; subst hvj; unfold pV sV at *; obtain ⟨e1, he1⟩ : ∃ e, pErr p = e := ⟨_, rfl⟩; obtain ⟨b1, hb1⟩ : ∃ b, shapedD p s = b := ⟨_, rfl⟩; obtain ⟨b2, hb2⟩ : ∃ b, safeD s = b := ⟨_, rfl⟩; rw [he1] at hck; rw [hb1] at hsh; rw [hb2] at hsf; have hse : safeE p s = if e1 ≠ 0 then e1 else if b1 then 0 else 9 := (by unfold safeE; rw [he1, hb1]); have hsb : safeB p s = (decide (safeE p s = 0) && b2) := (by unfold safeB; rw [hb2]); obtain ⟨E, hE⟩ : ∃ E, safeE p s = E := ⟨_, rfl⟩; rw [hE] at hse hsb; obtain ⟨BB, hBB⟩ : ∃ B, safeB p s = B := ⟨_, rfl⟩; rw [hBB] at hsb; rw [hE, hBB]; have HCK := Hd hck; have HSH := Hd hsh; have HSF := Hd hsf; have HMS := Hd hms; have HSE := Hd hse; have HSB := Hd hsb; clear hck hsh hsf hms hse hsb; clear he1 hb1 hb2 hE hBB hu Hu
 go_enter Tryz.func57, Tryz.ntmps57
 go_upto_region 2 with (first
  | (with_reducible refine wpList_boxA (t := 34) (cs := #[.slice aj p.jam.length cj, .int .i64 p.warm, .int .i64 p.tail, .int .i64 p.dirt]) rfl rfl rfl ?_
     rintro pb w1 hx1 hx2 hx3; have PB := Hd hx1; have X1 := Hd hx2; clear hx1 hx2
     clear hx3)
  | (with_reducible refine wpList_boxA (t := 38) (cs := #[.int .i64 s.drive, .bool s.folder, .slice a s.units.length c, .int .i64 s.fresh]) rfl rfl rfl ?_
     rintro sb w2 hy1 hy2 hy3; have pb2 := PB.out.ext hy2; have x2 := X1.out.tr hy2; have c2 := pb2.cell; clear PB X1; have SB := Hd hy1; have PB := Hd pb2; have X1 := Hd x2; clear hy1 pb2 x2
     clear hy3 hy2)
  | (have hgd := HCK.out
     go_at_call 55; refine (hgd _ X1.out).mono ?_; rintro e w3 ⟨rfl, hx3⟩; clear c2 HCK hgd; replace SB := Hd (SB.out.ext hx3); replace PB := Hd (PB.out.ext hx3); have x2 := X1.out.tr hx3; clear X1 hx3; have c3 := SB.out.cell; have X1 := Hd x2
     clear x2))
 by_cases h1 : e1 = 0
 {
 subst h1
 go_upto_region 5 with (
  (with_reducible refine wpList_boxA (t := 139) (cs := #[.pointer (some ⟨pb, 0, none⟩), .int .i64 s.drive, .bool s.folder, .slice a s.units.length c, .int .i64 s.fresh]) rfl rfl rfl ?_); rintro mb w6 hx1 hx2 hx3; have pb2 := PB.out.ext hx2; have x2 := X1.out.tr hx2; have hm := HMS.out _ x2 mb pb hx1 pb2; clear c3 PB X1 SB hx1 hx3 hx2 pb2; have X1 := Hd x2; have HM := Hd hm
  clear x2 hm)
 cases b1
 {
 have h9 : E = 9 := (by rw [HSE.out]; rfl); have h8 : BB = false := (by rw [HSB.out, h9]; rfl); have H9 := Hd h9; have H8 := Hd h8; clear h9 h8
 go_wp2_with (
  have hgd := HSH.out; go_at_call 69; refine (hgd _ X1.out _ _ HM.out).mono ?_; rintro e w7 ⟨rfl, hx7⟩; have x2 := X1.out.tr hx7; clear X1 hgd; have X1 := Hd x2
  clear x2)
 go_ret2
 exact ⟨by rw [H9.out, H8.out] <;> rfl, X1.out⟩
 }
 {
 have h9 : E = 0 := (by rw [HSE.out]; rfl); have h8 : BB = b2 := (by rw [HSB.out, h9]; simp); have H9 := Hd h9; have H8 := Hd h8; clear h9 h8
 go_wp2_with (first
  | (have hgd := HSH.out
     go_at_call 69; refine (hgd _ X1.out _ _ HM.out).mono ?_; rintro e w7 ⟨rfl, hx7⟩; have x2 := X1.out.tr hx7; have hm := HM.out.ext hx7; clear X1 hgd HSH HM hx7; have X1 := Hd x2; have HM := Hd hm
     clear x2 hm)
  | (have hgd := HSF.out
     go_at_call 70; refine (hgd _ X1.out _ _ HM.out).mono ?_; rintro e w8 ⟨rfl, hx8⟩; have x2 := X1.out.tr hx8; clear X1 hgd; have X1 := Hd x2
     clear x2))
 go_ret2
 exact ⟨by rw [H9.out, H8.out] <;> rfl, X1.out⟩
 }
 }
 {
 have f1 : (e1 != 0) = true := (by simp [h1]); have h9 : E = e1 := (by rw [HSE.out, if_pos h1]); have h8 : BB = false := (by rw [HSB.out, h9]; simp [h1]); have H9 := Hd h9; have H8 := Hd h8; clear h9 h8; go_wp2
 go_ret2
 exact ⟨by rw [H9.out, H8.out] <;> rfl, X1.out⟩
 }
end Go.Proofs.YtojobdffnnibaaaGreat
namespace Go.Proofs.YtojobdffnnibaaaGreat
open Go.RowKit
set_option linter.unusedVariables false
set_option linter.unusedSimpArgs false
theorem Good.small {p : PressD} {s : StD} (g : Good p s) : s.units.length ≤ 3 ∧ 1 ≤ s.units.length := by
 have := pErr_len g.pe; rw [g.len]; omega
theorem owns_ne' {w : World} {B sz n : Nat} {e t : TypeId} {v : Value} {xs : List Value} {b : Nat} {cs : Array Value} (h : w.ownsRow B e sz v n xs) (hb : Blk w b cs t) (ht : e ≠ t) : ∀ k, v.ownBlock = some k → ¬ k = b := fun k hk e => by
 rcases h.2 with ⟨hv, _⟩ | ⟨g, cap, cur, hv, _, hgb, _⟩
 · rw [hv] at hk; cases hk
 { rw [hv] at hk; have e2 : g = b := (Option.some.inj hk).trans e; subst e2; exact ht (blk_ty hgb hb) }
/-- An error that a round lets by. -/
def okE (er : Int) : Prop := er = 0 ∨ er = 80 ∨ er = 6
end Go.Proofs.YtojobdffnnibaaaGreat