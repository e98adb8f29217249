/- Towers, presses and states in memory. The leaves of the press: in, Check, what is asked of a tower, slices.ContainsFunc over towers. -/
import Derived.Test.YtojobdffnnibaaaGreatJ2
import Derived.Test.YtojobdffnnibaaaGreatJ1
namespace Go.Proofs.YtojobdffnnibaaaGreat
open Go.RowKit
set_option linter.unusedVariables false
set_option linter.unusedSimpArgs false
def uC (u : UnitD) : List Value := [.bool u.op, .bool u.th, .bool u.cl, .bool u.pr, .int .i64 u.ink]
def uV (u : UnitD) : Value := .agg #[.bool u.op, .bool u.th, .bool u.cl, .bool u.pr, .int .i64 u.ink]
def uL (us : List UnitD) : List Value := us.flatMap uC
theorem uL_len (us : List UnitD) : (uL us).length = us.length * 5 := by
 unfold uL
 induction us with
 | nil => rfl
 | cons u us ih => rw [List.flatMap_cons, List.length_append, ih, List.length_cons, Nat.succ_mul]; simp [uC]; omega
theorem uL_get (us : List UnitD) (i j : Nat) (hi : i < us.length) (hj : j < 5) : (uL us)[i * 5 + j]? = (uC us[i])[j]? := by
 have e : uL us = (List.range us.length).flatMap fun i => uC (us.getD i default) := by
  unfold uL
  have h : us = (List.range us.length).map fun i => us.getD i default := by
   apply List.ext_getElem
   · simp
   · intro k h1 h2; simp [h1]
  conv => lhs; rw [h]
  rw [List.flatMap_map]
 rw [e, flat_get (f := fun i => uC (us.getD i default)) (fun _ => rfl) us.length i j hi hj]; simp [List.getD, hi]
theorem uL_one (us : List UnitD) : ∀ v ∈ uL us, v.oneCell' = true := fun v hv => by
 unfold uL at hv; obtain ⟨u, _, h⟩ := List.mem_flatMap.1 hv; unfold uC at h; simp at h
 rcases h with rfl | rfl | rfl | rfl | rfl <;> rfl
/-- A slice of towers. -/
def UnIn (w : World) (v : Value) (us : List UnitD) : Prop :=
 us.length ≤ 9223372036854775807 ∧ ∃ a c, v = .slice a us.length c ∧ (a = none → c = 0) ∧ (0 < us.length → ∃ b o, a = some ⟨b, o, none⟩ ∧ ∀ i (h : i < us.length), ∀ j, j < 5 → w.cell? ⟨b, o + i * 5 + j, none⟩ = (uC us[i])[j]?)
theorem uC_some (u : UnitD) (j : Nat) (hj : j < 5) : ∃ x, (uC u)[j]? = some x := ⟨_, List.getElem?_eq_getElem (show j < (uC u).length from hj)⟩
theorem UnIn.only {w w' : World} {v : Value} {us : List UnitD} {S : Nat → Prop} (h : UnIn w v us) (k : Only S w w') (hs : ∀ b, v.ownBlock = some b → ¬ S b) : UnIn w' v us := by
 obtain ⟨h0, a, c, h1, hn, h2⟩ := h; refine ⟨h0, a, c, h1, hn, fun h3 => ?_⟩; obtain ⟨b, o, h4, h5⟩ := h2 h3; refine ⟨b, o, h4, fun i hi j hj => ?_⟩; obtain ⟨x, hx⟩ := uC_some us[i] j hj; have h6 := h5 i hi j hj; rw [hx] at h6 ⊢; exact k.cell h6 (hs b (by rw [h1, h4]; rfl))
theorem UnIn.ext {w w' : World} {v : Value} {us : List UnitD} (h : UnIn w v us) (k : Ext w w') : UnIn w' v us :=
 h.only (S := fun _ => False) (Only.of_ext k) fun _ _ h => h
theorem UnIn.nil (w : World) : UnIn w (.slice none 0 0) [] := ⟨by simp, none, 0, rfl, fun _ => rfl, fun h => by simp at h⟩
theorem UnIn.form {w : World} {v : Value} {us : List UnitD} (h : UnIn w v us) : ∃ a c, v = .slice a us.length c ∧ Hid (UnIn w (.slice a us.length c) us) := by
 have h' := h; obtain ⟨_, a, c, rfl, _⟩ := h; exact ⟨a, c, rfl, h'⟩
theorem UnIn.cells {w : World} {a : Option Addr} {n c : Nat} {us : List UnitD} (h : UnIn w (.slice a n c) us) (h0 : 0 < us.length) :
 ∃ b o, a = some ⟨b, o, none⟩ ∧ ∀ i (h : i < us.length), w.cell? ⟨b, o + i * 5, none⟩ = some (.bool us[i].op) ∧ w.cell? ⟨b, o + i * 5 + 1, none⟩ = some (.bool us[i].th) ∧ w.cell? ⟨b, o + i * 5 + 2, none⟩ = some (.bool us[i].cl) ∧ w.cell? ⟨b, o + i * 5 + 3, none⟩ = some (.bool us[i].pr) ∧ w.cell? ⟨b, o + i * 5 + 4, none⟩ = some (.int .i64 us[i].ink) := by
 obtain ⟨_, a', c', h1, _, h2⟩ := h
 cases h1
 obtain ⟨b, o, h4, h5⟩ := h2 h0; exact ⟨b, o, h4, fun i hi => ⟨h5 i hi 0 (by omega), h5 i hi 1 (by omega), h5 i hi 2 (by omega), h5 i hi 3 (by omega), h5 i hi 4 (by omega)⟩⟩
theorem UnIn.of_owns {w : World} {B : Nat} {e : TypeId} {v : Value} {us : List UnitD} (h : w.ownsRow B e 5 v us.length (uL us)) (hl : us.length ≤ 9223372036854775807) : UnIn w v us := by
 obtain ⟨a, c, hv, hac⟩ : ∃ a c, v = .slice a us.length c ∧ (a = none → c = 0) := by
  rcases h.2 with ⟨hv, e⟩ | ⟨g, cap, cur, hv, _⟩
  · exact ⟨none, 0, by rw [hv, e], fun _ => rfl⟩
  · exact ⟨_, cap, hv, fun h => by cases h⟩
 refine ⟨hl, a, c, hv, hac, fun h0 => ?_⟩; obtain ⟨g, c', hv', hc⟩ := owns_pos h h0; rw [hv] at hv'
 cases hv'
 refine ⟨g, 0, rfl, fun i hi j hj => ?_⟩; obtain ⟨x, hx⟩ := uC_some us[i] j hj; have h1 := uL_get us i j hi hj; rw [hx] at h1; rw [Nat.zero_add, hx]; exact hc (i * 5 + j) x h1
theorem UnIn.src {w : World} {v : Value} {us : List UnitD} (h : UnIn w v us) : Src 5 w v us.length (uL us) := by
 obtain ⟨_, a, c, h1, hn, h2⟩ := h; refine ⟨uL_len us, a, c, h1, fun e => ⟨?_, hn e⟩, fun ad had p u hp => ?_⟩
 {
 rcases Nat.eq_zero_or_pos us.length with h0 | h0
 · exact h0
 · obtain ⟨b, o, e', _⟩ := h2 h0; rw [e] at e'; cases e'
 }
 {
 have hpl : p < us.length * 5 := (by rw [← uL_len us]; exact (List.getElem?_eq_some_iff.1 hp).1); obtain ⟨b, o, e, h4⟩ := h2 (by omega); rw [had] at e
 cases e
 have hpd : p = p / 5 * 5 + p % 5 := (by omega); have hq := uL_get us (p / 5) (p % 5) (by omega) (by omega); rw [← hpd, hp] at hq; have h6 := h4 (p / 5) (by omega) (p % 5) (by omega)
 have e1 : (⟨b, o, none⟩ : Addr).add p = ⟨b, o + p / 5 * 5 + p % 5, none⟩ := by
  have : o + p / 5 * 5 + p % 5 = o + p := (by omega); rw [this]; clear hpd hq h6 this hp h4 hpl; unfold Addr.add; split <;> simp_all
 rw [e1, h6]; exact hq.symm
 }
/-- A slice of truths. -/
abbrev Truths (w : World) (v : Value) (bs : List Bool) : Prop := Sl w v (bs.map Value.bool)
/-- The numbers of a press fit. -/
def PressD.fits (p : PressD) : Prop := I64 p.warm ∧ I64 p.tail ∧ I64 p.dirt
def StD.fits (s : StD) : Prop := I64 s.drive ∧ I64 s.fresh ∧ ∀ u ∈ s.units, I64 u.ink
def inB (n l m : Int) : Bool := decide (l ≤ n) && decide (n ≤ m)
theorem inB_iff (n l m : Int) : inB n l m = true ↔ l ≤ n ∧ n ≤ m := by simp [inB]
theorem in_any (n l m : Int) (w : World) :
 Calls Tryz.prog 66 #[.int .i64 n, .int .i64 l, .int .i64 m] w fun e w' => e = .returned (.bool (inB n l m)) ∧ w = w' := by
 go_enter Tryz.func66, Tryz.ntmps66
 go_wp2
 · go_ret; exact ⟨ret_bool (by simp [inB, *]), rfl⟩
 · go_ret; exact ⟨ret_bool (by simp [inB]; omega), rfl⟩
/-- A press as it is handed on. -/
def pV (vj : Value) (p : PressD) : Value := .agg #[vj, .int .i64 p.warm, .int .i64 p.tail, .int .i64 p.dirt]
set_option maxRecDepth 100000 in
set_option maxHeartbeats 2000000 in
theorem check_any (p : PressD) (vj : Value) (w : World) (hj : Truths w vj p.jam) :
 Calls Tryz.prog 55 #[pV vj p] w fun e w' => e = .returned (.int .i64 (pErr p)) ∧ Ext w w' := by
 obtain ⟨_, aj, cj, rfl, _⟩ := hj; rw [List.length_map]; unfold pV; have fin : ∀ v, v = pErr p → Ending.returned (Value.int .i64 v) = .returned (.int .i64 (pErr p)) := fun v h => (by rw [h]); have hi1 := fun wz => in_any p.jam.length 1 3 wz; have hi2 := fun wz => in_any p.warm 0 10000 wz; have hi3 := fun wz => in_any p.tail 0 10000 wz; have hi4 := fun wz => in_any p.dirt 0 10000 wz; obtain ⟨b1, hb1⟩ : ∃ b, inB p.jam.length 1 3 = b := ⟨_, rfl⟩; obtain ⟨b2, hb2⟩ : ∃ b, inB p.warm 0 10000 = b := ⟨_, rfl⟩; obtain ⟨b3, hb3⟩ : ∃ b, inB p.tail 0 10000 = b := ⟨_, rfl⟩; obtain ⟨b4, hb4⟩ : ∃ b, inB p.dirt 0 10000 = b := ⟨_, rfl⟩; rw [hb1] at hi1; rw [hb2] at hi2; rw [hb3] at hi3; rw [hb4] at hi4
 have hp : pErr p = if b1 = true then (if b2 && b3 && b4 then 0 else 81) else 2 := by
  rw [← hb1, ← hb2, ← hb3, ← hb4]; unfold pErr
  by_cases h : (1:Int) ≤ p.jam.length ∧ (p.jam.length:Int) ≤ 3
  · rw [if_neg (by omega), if_pos ((inB_iff _ _ _).2 h)]
    rfl
  · rw [if_pos (by omega), if_neg (fun hh => h ((inB_iff _ _ _).1 hh))]
 have FIN := Hd fin; have HI1 := Hd hi1; have HI2 := Hd hi2; have HI3 := Hd hi3; have HI4 := Hd hi4; have HP := Hd hp; clear fin hi1 hi2 hi3 hi4 hp; clear hb1 hb2 hb3 hb4
 go_enter Tryz.func55, Tryz.ntmps55
 go_upto_region 1 with (
  (with_reducible refine wpList_boxA (t := 34) (cs := #[.slice aj p.jam.length cj, .int .i64 p.warm, .int .i64 p.tail, .int .i64 p.dirt]) rfl rfl rfl ?_); rintro xb w1 hx1 hx2 hx3; have c1 := hx1.cell; have XB := Hd hx1; have X1 := Hd hx2; clear hx1 hx2
  clear hx3)
 cases b1
 {
 go_wp2_with (have hgd := HI1.out; go_at_call 66; refine (hgd _).mono ?_; rintro e w2 ⟨rfl, rfl⟩; clear HI1 hgd)
 go_ret; exact ⟨FIN.out _ (by rw [HP.out]; rfl), X1.out⟩
 }
 {
 cases b2
 {
 go_wp2_with (first
  | (have hgd := HI1.out; go_at_call 66; refine (hgd _).mono ?_; rintro e w2 ⟨rfl, rfl⟩; clear HI1 hgd)
  | (have hgd := HI2.out; go_at_call 66; refine (hgd _).mono ?_; rintro e w2 ⟨rfl, rfl⟩; clear HI2 hgd))
 go_ret; exact ⟨FIN.out _ (by rw [HP.out]; rfl), X1.out⟩
 }
 {
 cases b3
 {
 go_wp2_with (first
  | (have hgd := HI1.out; go_at_call 66; refine (hgd _).mono ?_; rintro e w2 ⟨rfl, rfl⟩; clear HI1 hgd)
  | (have hgd := HI2.out; go_at_call 66; refine (hgd _).mono ?_; rintro e w2 ⟨rfl, rfl⟩; clear HI2 hgd)
  | (have hgd := HI3.out; go_at_call 66; refine (hgd _).mono ?_; rintro e w2 ⟨rfl, rfl⟩; clear HI3 hgd))
 go_ret; exact ⟨FIN.out _ (by rw [HP.out]; rfl), X1.out⟩
 }
 {
 cases b4
 all_goals
  go_wp2_with (first
   | (have hgd := HI1.out; go_at_call 66; refine (hgd _).mono ?_; rintro e w2 ⟨rfl, rfl⟩; clear HI1 hgd)
   | (have hgd := HI2.out; go_at_call 66; refine (hgd _).mono ?_; rintro e w2 ⟨rfl, rfl⟩; clear HI2 hgd)
   | (have hgd := HI3.out; go_at_call 66; refine (hgd _).mono ?_; rintro e w2 ⟨rfl, rfl⟩; clear HI3 hgd)
   | (have hgd := HI4.out; go_at_call 66; refine (hgd _).mono ?_; rintro e w2 ⟨rfl, rfl⟩; clear HI4 hgd))
  go_ret; exact ⟨FIN.out _ (by rw [HP.out]; rfl), X1.out⟩
 }
 }
 }
section
variable (u : UnitD) (w : World)
theorem uPressed : Calls Tryz.prog 85 (#[uV u] ++ #[]) w fun e w' => e = .returned (.bool u.pr) ∧ Ext w w' := by
 unfold uV
 go_enter Tryz.func85, Tryz.ntmps85
 go_wp2_with (
  (with_reducible refine wpList_boxA (t := 82) (cs := #[.bool u.op, .bool u.th, .bool u.cl, .bool u.pr, .int .i64 u.ink]) rfl rfl rfl ?_); rintro xb w1 hx1 hx2 hx3; have c1 := hx1.cell; have X1 := Hd hx2; clear hx2
  clear hx3 hx1)
 go_ret; exact ⟨rfl, X1.out⟩
theorem uOpen : Calls Tryz.prog 123 (#[uV u] ++ #[]) w fun e w' => e = .returned (.bool u.op) ∧ Ext w w' := by
 unfold uV
 go_enter Tryz.func123, Tryz.ntmps123
 go_wp2_with (
  (with_reducible refine wpList_boxA (t := 82) (cs := #[.bool u.op, .bool u.th, .bool u.cl, .bool u.pr, .int .i64 u.ink]) rfl rfl rfl ?_); rintro xb w1 hx1 hx2 hx3; have c1 := hx1.cell; have X1 := Hd hx2; clear hx2
  clear hx3 hx1)
 go_ret; exact ⟨rfl, X1.out⟩
theorem uInk : Calls Tryz.prog 82 (#[uV u] ++ #[]) w fun e w' => e = .returned (.bool (!inB u.ink 0 1000000)) ∧ Ext w w' := by
 unfold uV
 go_enter Tryz.func82, Tryz.ntmps82
 go_wp2_with (first
  | (with_reducible refine wpList_boxA (t := 82) (cs := #[.bool u.op, .bool u.th, .bool u.cl, .bool u.pr, .int .i64 u.ink]) rfl rfl rfl ?_
     rintro xb w1 hx1 hx2 hx3; have c1 := hx1.cell; have X1 := Hd hx2; clear hx2
     clear hx3 hx1)
  | (go_at_call 66; refine (in_any _ _ _ _).mono ?_; rintro e w2 ⟨rfl, rfl⟩))
 go_ret; exact ⟨rfl, X1.out⟩
theorem uSafe (xb mb : Nat) (drive : Int) (hx : w.cell? ⟨xb, 0, none⟩ = some (.pointer (some ⟨mb, 0, none⟩))) (hm : w.cell? ⟨mb, 1, none⟩ = some (.int .i64 drive)) :
 Calls Tryz.prog 84 (#[uV u] ++ #[.pointer (some ⟨xb, 0, none⟩)]) w fun e w' => e = .returned (.bool (u.pr && (!u.th || drive == 0))) ∧ Ext w w' := by
 obtain ⟨uo, ut, uc, up, ui⟩ := u; unfold uV; dsimp only
 go_enter Tryz.func84, Tryz.ntmps84
 go_upto_region 1 with (
  (with_reducible refine wpList_boxA (t := 82) (cs := #[.bool uo, .bool ut, .bool uc, .bool up, .int .i64 ui]) rfl rfl rfl ?_); rintro zb w1 hx1 hx2 hx3; have c1 := hx1.cell; have c2 := hx2.cellSome hx; have c3 := hx2.cellSome hm; have X1 := Hd hx2; clear hx2
  clear hx3 hx1 hx hm)
 cases up
 { go_wp2; go_ret; exact ⟨rfl, X1.out⟩ }
 {
 cases ut
 all_goals
  go_wp2; go_ret; exact ⟨by simp, X1.out⟩
 }
end
/-- slices.IndexFunc over towers. -/
def idxU (p : UnitD → Bool) (us : List UnitD) : Int := match us.findIdx? p with | some i => (i : Int) | none => -1
theorem idxU_none (p : UnitD → Bool) (us : List UnitD) (h : ∀ j (h : j < us.length), p us[j] = false) : idxU p us = -1 := by
 have : us.findIdx? p = none := by
  rw [List.findIdx?_eq_none_iff]; intro x hx; obtain ⟨j, hj, rfl⟩ := List.mem_iff_getElem.1 hx; exact h j hj
 simp [idxU, this]
theorem idxU_some (p : UnitD → Bool) (us : List UnitD) (k : Nat) (hk : k < us.length) (hp : p us[k] = true) (h : ∀ j (h : j < us.length), j < k → p us[j] = false) : idxU p us = k := by
 have : us.findIdx? p = some k := by
  rw [List.findIdx?_eq_some_iff_getElem]; exact ⟨hk, hp, fun j hj => by simp [h j (by omega) hj]⟩
 simp [idxU, this]
theorem idxU_any (p : UnitD → Bool) (us : List UnitD) : decide (0 ≤ idxU p us) = us.any p := by
 unfold idxU
 cases h : us.findIdx? p with
 | none =>
   rw [List.findIdx?_eq_none_iff] at h; have : us.any p = false := List.any_eq_false.2 fun x hx => (by rw [h x hx]; simp); rw [this]; rfl
 | some i =>
   rw [List.findIdx?_eq_some_iff_getElem] at h; obtain ⟨hi, hp, _⟩ := h; have : us.any p = true := List.any_eq_true.2 ⟨us[i], List.getElem_mem hi, hp⟩; rw [this]; exact decide_eq_true (by simp)
set_option maxRecDepth 100000 in
set_option maxHeartbeats 2000000 in
theorem indexFunc_any (us : List UnitD) (va : Value) (fid : Nat) (caps : Array Value) (p : UnitD → Bool) (w : World) (ha : UnIn w va us) (hid : ∀ (a : Array Value) (w : World), (callFunc fid a).run Tryz.prog w = .ok (.enter fid a) w)
 (hf : ∀ u ∈ us, ∀ w1, Ext w w1 → Calls Tryz.prog fid (#[uV u] ++ caps) w1 fun e w2 => e = .returned (.bool (p u)) ∧ Ext w1 w2) :
 Calls Tryz.prog 130 #[va, .func (.func fid) #[] caps] w fun e w' => e = .returned (.int .i64 (idxU p us)) ∧ Ext w w' := by
 have hx := ha.1; obtain ⟨a, c, rfl, Ha⟩ := ha.form; clear ha; have HF := Hd hf; clear hf; unfold uV at HF
 go_enter Tryz.func130, Tryz.ntmps130
 go_wp2
 go_loopw [8] (fun t wr => ∃ k : Nat, k ≤ us.length ∧ t = .int .i64 k ∧ Hid (∀ j (h : j < us.length), j < k → p us[j] = false) ∧ Ext w wr) (fun t _ => us.length - (intOf t).toNat)
 case atStart => exact ⟨0, Nat.zero_le _, rfl, fun j _ h => by omega, Below.refl _ _⟩
 case round =>
  obtain ⟨k, hk, rfl, HR, hw⟩ := hrel
  by_cases hlt : k < us.length
  {
  obtain ⟨b1, o1, rfl, hc1⟩ := Ha.out.cells (by omega); obtain ⟨d0, d1, d2, d3, d4⟩ := hc1 k hlt; have c0 := hw.cellSome d0; have c1 := hw.cellSome d1; have c2 := hw.cellSome d2; have c3 := hw.cellSome d3; have c4 := hw.cellSome d4; clear hc1 d0 d1 d2 d3 d4; have i1 : (0:Int) ≤ (k:Int) := (by omega); have i2 : (k:Int) < (us.length:Int) := (by omega); have HC := Hd (HF.out us[k] (List.getElem_mem hlt) _ hw)
  by_cases hp : p us[k] = true
  {
  have HE := Hd (idxU_some p us k hlt hp HR.out)
  go_wp2_with (refine HC.out.mono ?_; rintro e w2 ⟨rfl, hw2⟩)
  go_ret; exact ⟨ret_int (by rw [HE.out]), hw.tr hw2⟩
  }
  {
  have hp' : p us[k] = false := by simpa using hp
  have HE : Hid (∀ j (h : j < us.length), j < k + 1 → p us[j] = false) := fun j hj hjk => by
   rcases Nat.lt_or_ge j k with h | h
   · exact HR.out j hj h
   · obtain rfl : j = k := by omega
     exact hp'
  clear hp
  go_wp2_with (refine HC.out.mono ?_; rintro e w2 ⟨rfl, hw2⟩)
  go_roundw
  case rel => exact ⟨k+1, by omega, by go_num, HE, hw.tr hw2⟩
  case measure => simp [intOf]; omega
  }
  }
  {
  have HE := Hd (idxU_none p us (fun j hj => HR.out j hj (by omega)))
  go_wp2_with fail
  go_ret; exact ⟨ret_int (by rw [HE.out]), hw⟩
  }
theorem containsFunc_any (us : List UnitD) (va : Value) (fid : Nat) (caps : Array Value) (p : UnitD → Bool) (w : World) (ha : UnIn w va us) (hid : ∀ (a : Array Value) (w : World), (callFunc fid a).run Tryz.prog w = .ok (.enter fid a) w)
 (hf : ∀ u ∈ us, ∀ w1, Ext w w1 → Calls Tryz.prog fid (#[uV u] ++ caps) w1 fun e w2 => e = .returned (.bool (p u)) ∧ Ext w1 w2) :
 Calls Tryz.prog 122 #[va, .func (.func fid) #[] caps] w fun e w' => e = .returned (.bool (us.any p)) ∧ Ext w w' := by
 have hc := indexFunc_any us va fid caps p w ha hid hf; have hd := idxU_any p us; have HC := Hd hc; have HD := Hd hd; clear hc hd; clear ha hf
 go_enter Tryz.func122, Tryz.ntmps122
 go_wp2_with (go_at_call 130; refine HC.out.mono ?_; rintro e w2 ⟨rfl, hw2⟩)
 go_ret; exact ⟨ret_bool (by rw [← HD.out]), hw2⟩
end Go.Proofs.YtojobdffnnibaaaGreat