/- PressGuards: what each step of a round leads to. slices.Reverse at actions. -/
import Derived.Test.YtojobdffnnibaaaGreatJ7
import Derived.Test.YtojobdffnnibaaaGreatJ8
import Derived.Test.YtojobdffnnibaaaGreatPSit
import Derived.BigRegion
namespace Go.Proofs.YtojobdffnnibaaaGreat
open Go.RowKit
set_option linter.unusedVariables false
set_option linter.unusedSimpArgs false

theorem Good.small {p : PressD} {s : StD} (g : Good p s) : s.units.length ≤ 3 ∧ 1 ≤ s.units.length := by
  have := pErr_len g.pe
  rw [g.len]; omega
theorem owns_ne' {w : World} {B sz n : Nat} {e t : TypeId} {v : Value} {xs : List Value} {b : Nat} {cs : Array Value} (h : w.ownsRow B e sz v n xs) (hb : Blk w b cs t) (ht : e ≠ t) : ∀ k, v.ownBlock = some k → ¬ k = b := fun k hk e => by
  rcases h.2 with ⟨hv, _⟩ | ⟨g, cap, cur, hv, _, hgb, _⟩
  · rw [hv] at hk; cases hk
  · rw [hv] at hk
    have e2 : g = b := (Option.some.inj hk).trans e
    subst e2
    exact ht (blk_ty hgb hb)
/-- An error that a round lets by. -/
def okE (er : Int) : Prop := er = 0 ∨ er = 80 ∨ er = 6

end Go.Proofs.YtojobdffnnibaaaGreat

namespace Go.Proofs.YtojobdffnnibaaaGreat
open Go.RowKit
set_option linter.unusedVariables false
set_option linter.unusedSimpArgs false

def acC (x : Int × Int) : List Value := [.int .i64 x.1, .int .i64 x.2]
def acL (xs : List (Int × Int)) : List Value := xs.flatMap acC
theorem acL_len (xs : List (Int × Int)) : (acL xs).length = xs.length * 2 := by
  unfold acL
  induction xs with
  | nil => rfl
  | cons u us ih => rw [List.flatMap_cons, List.length_append, ih, List.length_cons, Nat.succ_mul]; simp [acC]; omega
theorem acL_get (xs : List (Int × Int)) (i j : Nat) (hi : i < xs.length) (hj : j < 2) : (acL xs)[i * 2 + j]? = (acC xs[i])[j]? := by
  have e : acL xs = (List.range xs.length).flatMap fun i => acC (xs.getD i default) := by
    unfold acL
    have h : xs = (List.range xs.length).map fun i => xs.getD i default := by
      apply List.ext_getElem
      · simp
      · intro k h1 h2; simp [h1]
    conv => lhs; rw [h]
    rw [List.flatMap_map]
  rw [e, flat_get (f := fun i => acC (xs.getD i default)) (fun _ => rfl) xs.length i j hi hj]
  simp [List.getD, hi]
theorem acL_snoc (xs : List (Int × Int)) (x : Int × Int) : acL (xs ++ [x]) = acL xs ++ acC x := by unfold acL; rw [List.flatMap_append]; simp
theorem acL_set {xs : List (Int × Int)} {i : Nat} {x : Int × Int} (hi : i < xs.length) : ((acL xs).set (i * 2) (.int .i64 x.1)).set (i * 2 + 1) (.int .i64 x.2) = acL (xs.set i x) := by
  apply List.ext_getElem?
  intro k
  by_cases hk : k < xs.length * 2
  · have hkd : k = k / 2 * 2 + k % 2 := by omega
    have h1 := acL_get xs (k / 2) (k % 2) (by omega) (by omega)
    have h2 := acL_get (xs.set i x) (k / 2) (k % 2) (by rw [List.length_set]; omega) (by omega)
    rw [← hkd] at h1 h2
    rw [h2, List.getElem?_set, List.getElem?_set]
    by_cases e1 : k / 2 = i
    · simp only [e1, List.getElem_set_self]
      have : k % 2 = 0 ∨ k % 2 = 1 := by omega
      rcases this with e2 | e2
      · rw [if_neg (by omega), if_pos (by omega), if_pos (by rw [acL_len]; omega), e2]; rfl
      · rw [if_pos (by omega), if_pos (by rw [List.length_set, acL_len]; omega), e2]; rfl
    · rw [if_neg (by omega), if_neg (by omega), h1, List.getElem_set_ne (fun h => e1 h.symm)]
  · rw [List.getElem?_eq_none (by rw [List.length_set, List.length_set, acL_len]; omega), List.getElem?_eq_none (by rw [acL_len, List.length_set]; omega)]

/-- k exchanges from the two ends inward. -/
def revK (xs : List (Int × Int)) (k : Nat) : List (Int × Int) := (List.range xs.length).map fun m => if m < k ∨ xs.length < m + 1 + k then xs.getD (xs.length - 1 - m) default else xs.getD m default
theorem revK_len (xs : List (Int × Int)) (k : Nat) : (revK xs k).length = xs.length := by simp [revK]
theorem revK_get (xs : List (Int × Int)) (k m : Nat) (h : m < (revK xs k).length) : (revK xs k)[m] = if m < k ∨ xs.length < m + 1 + k then xs.getD (xs.length - 1 - m) default else xs.getD m default := by
  simp only [revK, List.getElem_map, List.getElem_range]
theorem getD_at (xs : List (Int × Int)) (m : Nat) (h : m < xs.length) : xs.getD m default = xs[m] := by
  rw [List.getD_eq_getElem?_getD, List.getElem?_eq_getElem h]; rfl
theorem revK_zero (xs : List (Int × Int)) : revK xs 0 = xs := by
  apply List.ext_getElem
  · simp [revK]
  · intro m h1 h2
    rw [revK_get, if_neg (by omega), getD_at _ _ h2]
theorem revK_end (xs : List (Int × Int)) (k : Nat) (h : xs.length ≤ 2 * k + 1) : revK xs k = xs.reverse := by
  apply List.ext_getElem
  · simp [revK]
  · intro m h1 h2
    rw [List.length_reverse] at h2
    rw [revK_get, List.getElem_reverse]
    split
    · rw [getD_at _ _ (by omega)]
    · rw [getD_at _ _ h2]
      congr 1; omega
theorem revK_at (xs : List (Int × Int)) (k : Nat) (h : 2 * k + 1 < xs.length) : (revK xs k)[k]'(by rw [revK_len]; omega) = xs[k] ∧ (revK xs k)[xs.length - 1 - k]'(by rw [revK_len]; omega) = xs[xs.length - 1 - k] := by
  constructor
  · rw [revK_get, if_neg (by omega), getD_at _ _ (by omega)]
  · rw [revK_get, if_neg (by omega), getD_at _ _ (by omega)]
theorem revK_at2 (xs : List (Int × Int)) (k j : Nat) (h : 2 * k + 1 < xs.length) (hj : xs.length - 1 - k = j) : (revK xs k)[j]'(by rw [revK_len]; omega) = xs[j]'(by omega) := by
  subst hj; exact (revK_at xs k h).2
theorem revK_succ (xs : List (Int × Int)) (k : Nat) (h : 2 * k + 1 < xs.length) : revK xs (k + 1) = ((revK xs k).set k xs[xs.length - 1 - k]).set (xs.length - 1 - k) xs[k] := by
  apply List.ext_getElem
  · simp [revK]
  · intro m h1 h2
    rw [revK_len] at h1
    rw [revK_get, List.getElem_set, List.getElem_set]
    by_cases e1 : xs.length - 1 - k = m
    · rw [if_pos e1, if_pos (by omega), getD_at _ _ (by omega)]
      congr 1; omega
    · rw [if_neg e1]
      by_cases e2 : k = m
      · rw [if_pos e2, if_pos (by omega), getD_at _ _ (by omega)]
        congr 1; omega
      · rw [if_neg e2, revK_get]
        by_cases e3 : m < k ∨ xs.length < m + 1 + k
        · rw [if_pos e3, if_pos (by omega)]
        · rw [if_neg e3, if_neg (by omega)]

set_option maxRecDepth 100000 in
set_option maxHeartbeats 4000000 in
theorem reverse_any {B : Nat} (xs : List (Int × Int)) (v : Value) (w : World) (h : w.ownsRow B 72 2 v xs.length (acL xs)) (hl : xs.length ≤ 1000000) :
    Calls Tryz.prog 36 #[v] w fun e w' => e = .returned (.tuple #[]) ∧ w'.ownsRow B 72 2 v xs.length (acL xs.reverse) ∧ Only (fun b => v.ownBlock = some b) w w' := by
  obtain ⟨a, c, rfl⟩ := owns_form h
  have h0 : w.ownsRow B 72 2 (.slice a xs.length c) xs.length (acL (revK xs 0)) := by rw [revK_zero]; exact h
  clear h
  obtain ⟨N, hN⟩ : ∃ N, xs.length = N := ⟨_, rfl⟩
  rw [hN] at h0 hl
  rw [hN]
  have H0 := Lib.hid h0
  have HN := Lib.hid hN
  clear h0 hN
  go_enter Tryz.func36, Tryz.ntmps36
  go_wp2
  go_loopw [2, 3] (fun s2 s3 wr => ∃ k : Nat, s2 = .int .i64 k ∧ s3 = .int .i64 ((N:Int) - 1 - k) ∧ 2 * k ≤ N + 1 ∧ Hid (wr.ownsRow B 72 2 (.slice a N c) N (acL (revK xs k))) ∧ Hid (Only (fun b => (Value.slice a N c).ownBlock = some b) w wr)) (fun s2 _ _ => N - (intOf s2).toNat)
  case atStart => exact ⟨0, rfl, by go_num, by omega, H0, Only.refl _ _⟩
  case round =>
    obtain ⟨k, rfl, rfl, hk, HR, HW⟩ := hrel
    by_cases hlt : 2 * k + 1 < N
    · have hxl : xs.length = N := HN.out
      obtain ⟨g, cc, cur, hv, hb, hroom, hcur⟩ := owns_blkN HR.out (by omega)
      cases hv
      have hat1 := (revK_at xs k (by omega)).1
      obtain ⟨j, hj⟩ : ∃ j : Nat, xs.length - 1 - k = j := ⟨_, rfl⟩
      have hjl : j < xs.length := by omega
      have hkl : k < xs.length := by omega
      have hat2 := revK_at2 xs k j (by omega) hj
      have hsu := revK_succ xs k (by omega)
      simp only [hj] at hsu
      have hlen := revK_len xs k
      have hcells := owns_at HR.out rfl
      have ga := acL_get (revK xs k) k
      have gb := acL_get (revK xs k) j
      have hjj : (N:Int) - 1 - k = (j:Int) := by omega
      have e0 := hcells (k * 2) (.int .i64 xs[k].1) (by have := ga 0 (by omega) (by omega); rw [Nat.add_zero] at this; rw [this, hat1]; rfl)
      have e1 := hcells (k * 2 + 1) (.int .i64 xs[k].2) (by have := ga 1 (by omega) (by omega); rw [this, hat1]; rfl)
      have e2 := hcells (j * 2) (.int .i64 xs[j].1) (by have := gb 0 (by omega) (by omega); rw [Nat.add_zero] at this; rw [this, hat2]; rfl)
      have e3 := hcells (j * 2 + 1) (.int .i64 xs[j].2) (by have := gb 1 (by omega) (by omega); rw [this, hat2]; rfl)
      obtain ⟨⟨a1, a2⟩, hx1⟩ : ∃ x, xs[k] = x := ⟨_, rfl⟩
      obtain ⟨⟨b1, b2⟩, hx2⟩ : ∃ x, xs[j] = x := ⟨_, rfl⟩
      rw [hx1] at e0 e1 hsu
      rw [hx2] at e2 e3 hsu
      dsimp only at e0 e1 e2 e3
      clear ga gb hat1 hat2 hcells hx1 hx2
      have i1 : (0:Int) ≤ (k:Int) := by omega
      have i2 : (k:Int) < (N:Int) := by omega
      have i3 : (0:Int) ≤ (j:Int) := by omega
      have i4 : (j:Int) < (N:Int) := by omega
      have i5 : (k:Int) < (j:Int) := by omega
      have hjn : j < N := by omega
      have hkn : k < N := by omega
      rw [hjj]
      have fr := hb.free
      have BB := Lib.hid hb
      have SUC := Lib.hid hsu
      have LEN := Lib.hid hlen
      have JJ := Lib.hid hjj
      clear hb hsu hlen hjj
      clear hj hxl
      go_upto_region 3 with (fail)
      go_region
      have B1 := blk_set BB.out (k * 2) (.int .i64 b1)
      have O1 := owns_putN HR.out BB.out B1
      have B2 := blk_set B1 (k * 2 + 1) (.int .i64 b2)
      have O2 := owns_putN O1 B1 B2
      have B3 := blk_set B2 (j * 2) (.int .i64 a1)
      have O3 := owns_putN O2 B2 B3
      have B4 := blk_set B3 (j * 2 + 1) (.int .i64 a2)
      have O4 := owns_putN O3 B3 B4
      have h1 := acL_set (xs := revK xs k) (i := k) (x := (b1, b2)) (by rw [LEN.out]; exact hkl)
      have h2 := acL_set (xs := (revK xs k).set k (b1, b2)) (i := j) (x := (a1, a2)) (by rw [List.length_set, LEN.out]; exact hjl)
      dsimp only at h1 h2
      rw [h1, h2, ← SUC.out] at O4
      have hS : (Value.slice (some ⟨g, 0, none⟩) N c).ownBlock = some g := rfl
      have hO := (((HW.out.tr (Only.set _ ⟨g, k * 2, none⟩ (.int .i64 b1) hS)).tr (Only.set _ ⟨g, k * 2 + 1, none⟩ (.int .i64 b2) hS)).tr (Only.set _ ⟨g, j * 2, none⟩ (.int .i64 a1) hS)).tr (Only.set _ ⟨g, j * 2 + 1, none⟩ (.int .i64 a2) hS)
      have hd : ∀ W : World, Ext W W.drew := fun W => (Below.refl _ W).drew
      have O5 := owns_ext O4 (hd _)
      have O6 := hO.tr (Only.of_ext (hd _))
      clear B1 O1 B2 O2 B3 O3 B4 O4 hO hS e0 e1 e2 e3 fr h1 h2
      generalize World.drew _ = wz at *
      clear hd
      have OW := Lib.hid O5
      have ON := Lib.hid O6
      clear O5 O6
      have hk2 : 2 * (k + 1) ≤ N + 1 := by omega
      go_wp2
      go_roundw
      case rel => exact ⟨k + 1, by go_num, by have := JJ.out; first | go_num | (congr 1; omega), hk2, OW, ON⟩
      case measure => first | (simp [intOf]; done) | (simp [intOf]; omega)
    · have i2 : decide ((k:Int) < ((N:Int) - 1 - k)) = false := decide_eq_false (by omega)
      have hend := HR.out
      rw [revK_end xs k (by rw [HN.out]; omega)] at hend
      have HEND := Lib.hid hend
      clear hend
      go_wp2
      go_end0
      exact ⟨rfl, HEND.out, HW.out⟩
end Go.Proofs.YtojobdffnnibaaaGreat
