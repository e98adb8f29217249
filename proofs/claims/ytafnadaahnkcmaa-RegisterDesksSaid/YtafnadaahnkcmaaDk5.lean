/- RegisterDesks: all copies of a desk: the walk. -/
import Derived.Test.YtafnadaahnkcmaaDk4
namespace Go.Proofs.Ytafnadaahnkcmaa
open Go.RowKit
set_option linter.unusedVariables false
set_option linter.unusedSimpArgs false

set_option maxRecDepth 100000 in
set_option maxHeartbeats 2000000 in
theorem copies_any (db : Nat) (d : DeskD) (m : DMem) (ρ : Nat → Nat) (w : World) (hd : DSt w db d m ρ) (hn : d.copies.length ≤ 5000) (hln : ∀ i, i < d.copies.length → (d.copy i).errs.length ≤ 1000 ∧ (d.copy i).moves.length ≤ 1000) :
    Calls Try.prog 28 #[.pointer (some ⟨db, 0, none⟩)] w fun e w' => ∃ v es ms τ, e = .returned (.tuple #[v, .int .i64 0]) ∧ CpSt w.heap.size w' d.copies d.copies.length v es ms τ ∧ Ext w w' := by
  obtain ⟨av, cv, hvc⟩ := owns_form hd.cps.1
  have hdb := hd.desk
  rw [hvc] at hdb
  have c0 := hdb.cell
  have hrow := hd.cps.1
  rw [hvc] at hrow
  have HN := Lib.hid (none_any db ⟨m.mb, 0, none⟩ w (by rw [hdb.cell]; rfl))
  have hes := fun i hi => (hd.es i hi).1
  have hms := fun i hi => (hd.ms i hi).1
  have HROW := Lib.hid hrow
  have HES := Lib.hid hes
  have HMS := Lib.hid hms
  have HLN := Lib.hid hln
  clear hrow hes hms hln
  clear hd hdb
  go_enter Try.func28, Try.ntmps28
  go_wp2_with (go_at_call 42; refine HN.out.mono ?_; rintro e w2 ⟨rfl, rfl⟩)
  go_loopw [4, 14] (fun v t wr => ∃ k : Nat, k ≤ d.copies.length ∧ t = .int .i64 k ∧ Hid (∃ es ms τ, CpSt w.heap.size wr d.copies k v es ms τ) ∧ Hid (Ext w wr)) (fun _ t _ => d.copies.length - (intOf t).toNat)
  case atStart => exact ⟨0, Nat.zero_le _, rfl, ⟨_, _, _, CpSt.start w d.copies⟩, Below.refl _ _⟩
  case round =>
    obtain ⟨k, hk, rfl, HV, HX⟩ := hrel
    obtain ⟨es, ms, τ, hcp⟩ := HV.out
    obtain ⟨a4, c4, rfl⟩ := row_form hcp.row.1
    clear HV
    have CP := Lib.hid hcp
    clear hcp
    by_cases hlt : k < d.copies.length
    · obtain ⟨g, c, hav, hcell⟩ := owns_pos HROW.out (by omega)
      cases hav
      obtain ⟨x, hx⟩ : ∃ x, x = d.copies.getD k default := ⟨_, rfl⟩
      have hget := fun j (hj : j < 4) => cpL_get d.copies m.es m.ms d.copies.length k j hlt hj
      have hr1 := HES.out k hlt
      have hr2 := HMS.out k hlt
      have hl12 := HLN.out k hlt
      unfold DeskD.copy at hr1 hr2 hl12
      rw [← hx] at hget hr1 hr2 hl12
      obtain ⟨hl1, hl2⟩ := hl12
      obtain ⟨ae, ce, hve⟩ := row_form hr1
      obtain ⟨am, cm, hvm⟩ := row_form hr2
      rw [hve] at hr1
      rw [hvm] at hr2
      rw [hve, hvm] at hget
      unfold cpC at hget
      have k0 : wr.cell? ⟨g, k * 4, none⟩ = some (.bool x.good) := HX.out.cellSome (hcell (k * 4 + 0) _ (hget 0 (by omega)))
      have k1 : wr.cell? ⟨g, k * 4 + 1, none⟩ = some (.int .i64 x.shift) := HX.out.cellSome (hcell (k * 4 + 1) _ (hget 1 (by omega)))
      have k2 : wr.cell? ⟨g, k * 4 + 2, none⟩ = some (.slice ae x.errs.length ce) := HX.out.cellSome (hcell (k * 4 + 2) _ (hget 2 (by omega)))
      have k3 : wr.cell? ⟨g, k * 4 + 3, none⟩ = some (.slice am x.moves.length cm) := HX.out.cellSome (hcell (k * 4 + 3) _ (hget 3 (by omega)))
      have hi1 : Ints w (.slice ae x.errs.length ce) x.errs := Sl.of_owns hr1
      have hi2 : Ints w (.slice am x.moves.length cm) x.moves := Sl.of_owns hr2
      have HI1 := Lib.hid hi1
      have HI2 := Lib.hid hi2
      have HXD := Lib.hid hx
      clear hi1 hi2 hx
      clear hget hcell hve hvm hr1 hr2
      go_wp2_with (first
        | (with_reducible refine wpList_allocA (t := 59) rfl rfl Try.zeroValue59 ?_
           rintro fb w3 hb3 hx3 hl3
           have FB := Lib.hid hb3
           have X3 := Lib.hid hx3
           have L3 := Lib.hid hl3
           clear hb3 hx3 hl3)
        | (with_reducible refine wpList_storeK (ty := 59) (cells := #[.bool x.good, .int .i64 x.shift, .slice ae x.errs.length ce, .slice am x.moves.length cm]) rfl rfl FB.out ?_ ?_ ?_ ?_ ?_ ?_
           · rfl
           · rfl
           · kernel_rfl
           · rfl
           · simp [Value.oneCell']
           rintro w4 hb4 ho4
           have k6 := hb4.cell
           have hx4 : Ext wr w4 := X3.out.then_only ho4 (fun k (e : k = fb) => by have := L3.out; omega)
           have X4 := Lib.hid hx4
           clear hx4
           clear hb4 ho4 FB X3 k0 k1 k2 k3)
        | (go_at_call 43
           refine (copied_any x.good x.shift _ _ x.errs x.moves w4 (HI1.out.ext (HX.out.tr X4.out)) (HI2.out.ext (HX.out.tr X4.out)) (by omega) (by omega)).mono ?_
           rintro e w9 ⟨ve', vm', rfl, hx9, ho1, ho2, hap9⟩
           unfold cpV
           obtain ⟨x4, y4, rfl⟩ := owns_form ho1
           obtain ⟨x5, y5, rfl⟩ := owns_form ho2
           have xw := X4.out.tr hx9
           have hc4 : wr.heap.size ≤ w4.heap.size := X4.out.size
           have X9 := Lib.hid xw
           have O1 := Lib.hid ho1
           have O2 := Lib.hid ho2
           have AP := Lib.hid hap9
           clear xw ho1 ho2 hap9
           clear hx9 k6)
        | (at_builtin
           refine wpList_app tCopies rfl rfl (v := .slice a4 k c4) rfl (owns_ext CP.out.row.1 (X9.out.tr (ext_lit _ _ _))) rfl (Src.lit _ [.bool x.good, .int .i64 x.shift, .slice x4 x.errs.length y4, .slice x5 x.moves.length y5] 1 4 rfl 59 1) (by simp [Value.oneCell']) (by omega) (Nat.zero_le _) ?_
           rintro v' w10 t1 t2 t3
           obtain ⟨τ', cp', hon⟩ := CP.out.add X9.out (by rw [← HXD.out]; exact O1.out) (by rw [← HXD.out]; exact O2.out) hc4 AP.out (ext_lit _ _ _) (by rw [← HXD.out]; exact t1) t2 t3
           have xt := HX.out.then_only hon (fun b hb => CP.out.hlo b hb)
           have NCP := Lib.hid cp'
           have NX := Lib.hid xt
           clear cp' xt
           clear t1 t2 t3 hon))
      go_roundw
      case rel => exact ⟨k + 1, by omega, by go_num, ⟨_, _, _, NCP.out⟩, NX.out⟩
      case measure => first | (simp [intOf]; done) | (simp [intOf]; omega)
    · obtain rfl : k = d.copies.length := by omega
      go_wp2
      go_ret2
      exact ⟨_, es, ms, τ, rfl, CP.out, HX.out⟩
end Go.Proofs.Ytafnadaahnkcmaa
