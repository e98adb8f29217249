/- RegisterDesks: the waste of a desk. -/
import Derived.Test.YtafnadaahnkcmaaDk2
import Derived.Test.YtafnadaahnkcmaaRead
namespace Go.Proofs.Ytafnadaahnkcmaa
open Go.RowKit
set_option linter.unusedVariables false
set_option linter.unusedSimpArgs false

/-- How many of the first k copies are not good. -/
def wasteN (cs : List CopyD) : Nat → Nat
  | 0 => 0
  | k + 1 => wasteN cs k + if (cs.getD k default).good = true then 0 else 1
theorem wasteN_le (cs : List CopyD) (k : Nat) : wasteN cs k ≤ k := by
  induction k with
  | zero => exact Nat.le_refl _
  | succ k ih => unfold wasteN; split <;> omega
theorem cpL_get (cs : List CopyD) (es ms : Nat → Value) (n i j : Nat) (hi : i < n) (hj : j < 4) : (cpL cs es ms n)[i * 4 + j]? = (cpC (cs.getD i default) (es i) (ms i))[j]? :=
  flat_get (f := fun i => cpC (cs.getD i default) (es i) (ms i)) (fun _ => rfl) n i j hi hj

set_option maxRecDepth 100000 in
set_option maxHeartbeats 2000000 in
theorem waste_any (db : Nat) (d : DeskD) (m : DMem) (ρ : Nat → Nat) (w : World) (hd : DSt w db d m ρ) (hn : d.copies.length ≤ 5000) :
    Calls Try.prog 29 #[.pointer (some ⟨db, 0, none⟩)] w fun e w' => e = .returned (.tuple #[.int .i64 (wasteN d.copies d.copies.length), .int .i64 0]) ∧ Ext w w' := by
  obtain ⟨av, cv, hvc⟩ := owns_form hd.cps.1
  have hdb := hd.desk
  rw [hvc] at hdb
  have c0 := hdb.cell
  have hrow := hd.cps.1
  rw [hvc] at hrow
  have HN := Lib.hid (none_any db ⟨m.mb, 0, none⟩ w (by rw [hdb.cell]; rfl))
  have hes := fun i hi => (hd.es i hi).1
  have hms := fun i hi => (hd.ms i hi).1
  have HROW := Lib.hid hrow
  have HES := Lib.hid hes
  have HMS := Lib.hid hms
  clear hrow hes hms
  clear hd hdb
  go_enter Try.func29, Try.ntmps29
  go_wp2_with (go_at_call 42; refine HN.out.mono ?_; rintro e w2 ⟨rfl, rfl⟩)
  go_loopw [4, 14] (fun v t wr => ∃ k : Nat, k ≤ d.copies.length ∧ t = .int .i64 k ∧ Hid (v = .int .i64 (wasteN d.copies k)) ∧ Hid (Ext w wr)) (fun _ t _ => d.copies.length - (intOf t).toNat)
  case atStart => exact ⟨0, Nat.zero_le _, rfl, rfl, Below.refl _ _⟩
  case round =>
    obtain ⟨k, hk, rfl, HV, HX⟩ := hrel
    have hv := HV.out
    subst hv
    obtain ⟨q, hq⟩ : ∃ q, q = wasteN d.copies k := ⟨_, rfl⟩
    have hqk := wasteN_le d.copies k
    rw [← hq] at hqk ⊢
    have HQ := Lib.hid hq
    clear hq
    by_cases hlt : k < d.copies.length
    · obtain ⟨g, c, hav, hcell⟩ := owns_pos HROW.out (by omega)
      cases hav
      obtain ⟨x, hx⟩ : ∃ x, x = d.copies.getD k default := ⟨_, rfl⟩
      obtain ⟨xg, hxg⟩ : ∃ b, x.good = b := ⟨_, rfl⟩
      have hget := fun j (hj : j < 4) => cpL_get d.copies m.es m.ms d.copies.length k j hlt hj
      rw [← hx] at hget
      obtain ⟨ae, ce, hve⟩ := row_form (HES.out k hlt)
      obtain ⟨am, cm, hvm⟩ := row_form (HMS.out k hlt)
      obtain ⟨le, hle⟩ : ∃ y, y = (d.copy k).errs.length := ⟨_, rfl⟩
      obtain ⟨lm, hlm⟩ : ∃ y, y = (d.copy k).moves.length := ⟨_, rfl⟩
      rw [← hle] at hve
      rw [← hlm] at hvm
      rw [hve, hvm] at hget
      unfold cpC at hget
      rw [hxg] at hget
      have k0 : wr.cell? ⟨g, k * 4, none⟩ = some (.bool xg) := HX.out.cellSome (hcell (k * 4 + 0) _ (hget 0 (by omega)))
      have k1 : wr.cell? ⟨g, k * 4 + 1, none⟩ = some (.int .i64 x.shift) := HX.out.cellSome (hcell (k * 4 + 1) _ (hget 1 (by omega)))
      have k2 : wr.cell? ⟨g, k * 4 + 2, none⟩ = some (.slice ae le ce) := HX.out.cellSome (hcell (k * 4 + 2) _ (hget 2 (by omega)))
      have k3 : wr.cell? ⟨g, k * 4 + 3, none⟩ = some (.slice am lm cm) := HX.out.cellSome (hcell (k * 4 + 3) _ (hget 3 (by omega)))
      have ew : wasteN d.copies (k + 1) = q + if xg = true then 0 else 1 := by rw [wasteN, ← hx, hxg, ← HQ.out]
      have e1 : IntKind.i64.wrap ((q : Int) + 1) = (q : Int) + 1 := i64_eq _ (by omega)
      have HEW := Lib.hid ew
      clear ew
      clear hget hcell hx hxg hve hvm hle hlm
      go_upto_region 7 with (first
        | (with_reducible refine wpList_allocA (t := 59) rfl rfl Try.zeroValue59 ?_
           rintro fb w3 hb3 hx3 hl3
           have FB := Lib.hid hb3
           have X3 := Lib.hid hx3
           have L3 := Lib.hid hl3
           clear hb3 hx3 hl3)
        | (with_reducible refine wpList_storeK (ty := 59) (cells := #[.bool xg, .int .i64 x.shift, .slice ae le ce, .slice am lm cm]) rfl rfl FB.out ?_ ?_ ?_ ?_ ?_ ?_
           · rfl
           · rfl
           · kernel_rfl
           · rfl
           · simp [Value.oneCell']
           rintro w4 hb4 ho4
           have k6 : w4.cell? ⟨fb, 0, none⟩ = some (.bool xg) := hb4.cell 0
           have hx4 : Ext wr w4 := X3.out.then_only ho4 (fun k (e : k = fb) => by have := L3.out; omega)
           have X4 := Lib.hid hx4
           clear hx4
           clear hb4 ho4 FB X3))
      clear k0 k1 k2 k3
      cases xg
      · go_wp2
        go_roundw
        case rel => exact ⟨k + 1, by omega, by go_num, (congrArg (fun n : Nat => Value.int .i64 (n : Int)) (HEW.out.symm : q + 1 = wasteN d.copies (k + 1)) : Value.int .i64 ((q : Int) + 1) = _), HX.out.tr X4.out⟩
        case measure => first | (simp [intOf]; done) | (simp [intOf]; omega)
      · go_wp2
        go_roundw
        case rel => exact ⟨k + 1, by omega, by go_num, (congrArg (fun n : Nat => Value.int .i64 (n : Int)) (HEW.out.symm : q = wasteN d.copies (k + 1)) : Value.int .i64 (q : Int) = _), HX.out.tr X4.out⟩
        case measure => first | (simp [intOf]; done) | (simp [intOf]; omega)
    · obtain rfl : k = d.copies.length := by omega
      go_wp2
      go_ret2
      exact ⟨by rw [HQ.out]; rfl, HX.out⟩
end Go.Proofs.Ytafnadaahnkcmaa
