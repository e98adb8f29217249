/- The statements' own helpers: Accounts. -/
import Derived.Test.YtekplfbfkfiabaaBkAudit
namespace Go.Proofs.Ytekplfbfkfiabaa
open Go.RowKit
set_option linter.unusedVariables false
set_option linter.unusedSimpArgs false

theorem fl_take {α : Type} {f : α → List Value} (l : List α) (k : Nat) (hk : k < l.length) : (l.take (k + 1)).flatMap f = (l.take k).flatMap f ++ f l[k] := by
  rw [List.take_succ_eq_append_getElem hk, List.flatMap_append]; simp

set_option maxRecDepth 100000 in
set_option maxHeartbeats 2000000 in
theorem accounts_any (l : List AccD) (va : Value) (w : World) (ha : AccIn w va l) (hb : l.length ≤ 1000000) :
    Calls Try.prog 25 #[va] w fun e w' => ∃ v, e = .returned v ∧ Ext w w' ∧ w'.ownsRow w.heap.size 85 2 v l.length (l.flatMap accC) := by
  obtain ⟨a, c, rfl, HS⟩ := ha.form
  clear ha
  go_enter Try.func25, Try.ntmps25
  go_wp2
  go_loopw [3, 4] (fun v t wr => ∃ k : Nat, k ≤ l.length ∧ t = .int .i64 k ∧ Hid (wr.ownsRow w.heap.size 85 2 v k ((l.take k).flatMap accC)) ∧ Hid (Ext w wr)) (fun _ t _ => l.length - (intOf t).toNat)
  case atStart => exact ⟨0, Nat.zero_le _, rfl, World.ownsRow_nil _ _ _ _, Below.refl _ _⟩
  case round =>
    obtain ⟨k, hk, rfl, HV, HX⟩ := hrel
    obtain ⟨a1, c1, rfl⟩ := row_form HV.out
    by_cases hlt : k < l.length
    · obtain ⟨b, o, rfl, hc⟩ := HS.out.cells (by omega)
      have e0 := HX.out.cellSome (hc k hlt).1
      have e1 := HX.out.cellSome (hc k hlt).2
      have HF := Lib.hid (fl_take (f := accC) l k hlt)
      obtain ⟨x, hx⟩ : ∃ x, x = l[k] := ⟨_, rfl⟩
      rw [← hx] at e0 e1 HF
      clear hx hc
      obtain ⟨y, s⟩ := x
      dsimp only at e0 e1
      have j1 : (0:Int) ≤ (k:Int) := by omega
      have j2 : (k:Int) < (l.length:Int) := by omega
      go_wp2_with (
        at_builtin
        refine wpList_app tAccs rfl rfl rfl (owns_ext HV.out (ext_lit _ _ _)) rfl (Src.lit _ [.int .i64 y, .bool s] 1 2 rfl 85 1) (by simp [Value.oneCell']) (by omega) (Nat.le_trans HX.out.size (by simp)) ?_
        rintro v' w1 h1 h2 h3
        have hx1 := ext_grown (HX.out.tr (ext_lit wr _ _)) (owns_ext HV.out (ext_lit wr _ _)) h2
        have H1 := Lib.hid h1
        have HX1 := Lib.hid hx1
        clear h1 hx1
        clear h2 h3)
      go_roundw
      case rel => exact ⟨k + 1, by omega, by go_num, Lib.hid (by rw [HF.out]; exact H1.out), HX1⟩
      case measure => simp [intOf]; omega
    · obtain rfl : k = l.length := by omega
      have hv := HV.out
      rw [List.take_length] at hv
      have HV2 := Lib.hid hv
      clear hlt hv
      go_wp2
      go_ret
      exact ⟨_, rfl, HX.out, HV2.out⟩

set_option maxRecDepth 100000 in
set_option maxHeartbeats 2000000 in
theorem signed_any (l : List SigD) (va : Value) (w : World) (ha : SigIn w va l) (hb : l.length ≤ 1000000) :
    Calls Try.prog 33 #[va] w fun e w' => ∃ v, e = .returned v ∧ Ext w w' ∧ w'.ownsRow w.heap.size 76 5 v l.length (l.flatMap sigC) := by
  obtain ⟨a, c, rfl, HS⟩ := ha.form
  clear ha
  go_enter Try.func33, Try.ntmps33
  go_wp2
  go_loopw [3, 4] (fun v t wr => ∃ k : Nat, k ≤ l.length ∧ t = .int .i64 k ∧ Hid (wr.ownsRow w.heap.size 76 5 v k ((l.take k).flatMap sigC)) ∧ Hid (Ext w wr)) (fun _ t _ => l.length - (intOf t).toNat)
  case atStart => exact ⟨0, Nat.zero_le _, rfl, World.ownsRow_nil _ _ _ _, Below.refl _ _⟩
  case round =>
    obtain ⟨k, hk, rfl, HV, HX⟩ := hrel
    obtain ⟨a1, c1, rfl⟩ := row_form HV.out
    by_cases hlt : k < l.length
    · obtain ⟨b, o, rfl, hc⟩ := HS.out.cells (by omega)
      have HF := Lib.hid (fl_take (f := sigC) l k hlt)
      have HCE := Lib.hid (hc k hlt)
      obtain ⟨x, hx⟩ : ∃ x, x = l[k] := ⟨_, rfl⟩
      rw [← hx] at HF HCE
      clear hx hc
      obtain ⟨⟨xf, xt, xa, xd⟩, xs⟩ := x
      dsimp only at HCE
      have j1 : (0:Int) ≤ (k:Int) := by omega
      have j2 : (k:Int) < (l.length:Int) := by omega
      have HS5 : Hid (∀ wX, Ext w wX → wX.cell? ⟨b, o + k * 5, none⟩ = some (.int .i64 xf) ∧ wX.cell? ⟨b, o + k * 5 + 1, none⟩ = some (.int .i64 xt) ∧ wX.cell? ⟨b, o + k * 5 + 2, none⟩ = some (.int .i64 xa) ∧ wX.cell? ⟨b, o + k * 5 + 3, none⟩ = some (.int .i64 xd) ∧ wX.cell? ⟨b, o + k * 5 + 4, none⟩ = some (.int .u64 xs)) := fun wX hw =>
        ⟨hw.cellSome HCE.out.1, hw.cellSome HCE.out.2.1, hw.cellSome HCE.out.2.2.1, hw.cellSome HCE.out.2.2.2.1, hw.cellSome HCE.out.2.2.2.2⟩
      go_upto_region 5 with (fail)
      have hxd : Ext wr wr.drew := (Below.refl _ wr).drew
      have hv2 := owns_ext HV.out hxd
      have hx2 := HX.out.tr hxd
      refine wp_region_K (fun wX => wX.cell? ⟨b, o + k * 5, none⟩ = some (.int .i64 xf) ∧ wX.cell? ⟨b, o + k * 5 + 1, none⟩ = some (.int .i64 xt) ∧ wX.cell? ⟨b, o + k * 5 + 2, none⟩ = some (.int .i64 xa) ∧ wX.cell? ⟨b, o + k * 5 + 3, none⟩ = some (.int .i64 xd) ∧ wX.cell? ⟨b, o + k * 5 + 4, none⟩ = some (.int .u64 xs)) 15 (by kernel_rfl) (HS5.out _ hx2) (fun hHeld => ?_)
      generalize wr.drew = wA at *
      clear HV HX hxd
      have HV := Lib.hid hv2
      have HX := Lib.hid hx2
      clear hv2 hx2
      refine wpAnyK_takeL (i := 0) (v := ?_) rfl (by kernel_rfl) (by kernel_rfl) (by kernel_rfl) (by kernel_rfl) (fun _ _ _ h => h) (Or.inl ⟨by rfl, ?_⟩) hHeld ?_
      rotate_left
      · intro w hSw; (try dsimp only at hSw); go_simp; (try with_reducible rfl)
      try simp only [Act.put, List.setIfInBounds_toArray, List.set_cons_zero, List.set_cons_succ]
      refine wpAnyK_takeL (i := 1) (v := ?_) rfl (by kernel_rfl) (by kernel_rfl) (by kernel_rfl) (by kernel_rfl) (fun _ _ _ h => h) (Or.inl ⟨by rfl, ?_⟩) hHeld ?_
      rotate_left
      · intro w hSw; (try dsimp only at hSw); go_simp; (try with_reducible rfl)
      try simp only [Act.put, List.setIfInBounds_toArray, List.set_cons_zero, List.set_cons_succ]
      refine wpAnyK_takeL (i := 2) (v := ?_) rfl (by kernel_rfl) (by kernel_rfl) (by kernel_rfl) (by kernel_rfl) (fun _ _ _ h => h) (Or.inl ⟨by rfl, ?_⟩) hHeld ?_
      rotate_left
      · intro w hSw; (try dsimp only at hSw); go_simp; (try with_reducible rfl)
      try simp only [Act.put, List.setIfInBounds_toArray, List.set_cons_zero, List.set_cons_succ]
      refine wpAnyK_takeL (i := 3) (v := ?_) rfl (by kernel_rfl) (by kernel_rfl) (by kernel_rfl) (by kernel_rfl) (fun _ _ _ h => h) (Or.inl ⟨by rfl, ?_⟩) hHeld ?_
      rotate_left
      · intro w hSw; (try dsimp only at hSw); go_simp; (try with_reducible rfl)
      try simp only [Act.put, List.setIfInBounds_toArray, List.set_cons_zero, List.set_cons_succ]
      refine wpAnyK_takeL (i := 4) (v := ?_) rfl (by kernel_rfl) (by kernel_rfl) (by kernel_rfl) (by kernel_rfl) (fun _ _ _ h => h) (Or.inl ⟨by rfl, ?_⟩) hHeld ?_
      rotate_left
      · intro w hSw; (try dsimp only at hSw); go_simp; (try with_reducible rfl)
      try simp only [Act.put, List.setIfInBounds_toArray, List.set_cons_zero, List.set_cons_succ]
      refine wpAnyK_takeL (i := 5) (v := ?_) rfl (by kernel_rfl) (by kernel_rfl) (by kernel_rfl) (by kernel_rfl) (fun _ _ _ h => h) (Or.inl ⟨by rfl, ?_⟩) hHeld ?_
      rotate_left
      · intro w hSw; (try dsimp only at hSw); go_simp; (try with_reducible rfl)
      try simp only [Act.put, List.setIfInBounds_toArray, List.set_cons_zero, List.set_cons_succ]
      refine wpAnyK_takeL (i := 6) (v := ?_) rfl (by kernel_rfl) (by kernel_rfl) (by kernel_rfl) (by kernel_rfl) (fun _ _ _ h => h) (Or.inl ⟨by rfl, ?_⟩) hHeld ?_
      rotate_left
      · intro w hSw; (try dsimp only at hSw); go_simp; (try with_reducible rfl)
      try simp only [Act.put, List.setIfInBounds_toArray, List.set_cons_zero, List.set_cons_succ]
      refine wpAnyK_takeL (i := 7) (v := ?_) rfl (by kernel_rfl) (by kernel_rfl) (by kernel_rfl) (by kernel_rfl) (fun _ _ _ h => h) (Or.inl ⟨by rfl, ?_⟩) hHeld ?_
      rotate_left
      · intro w hSw; (try dsimp only at hSw); go_simp; (try with_reducible rfl)
      try simp only [Act.put, List.setIfInBounds_toArray, List.set_cons_zero, List.set_cons_succ]
      refine wpAnyK_takeL (i := 8) (v := ?_) rfl (by kernel_rfl) (by kernel_rfl) (by kernel_rfl) (by kernel_rfl) (fun _ _ _ h => h) (Or.inl ⟨by rfl, ?_⟩) hHeld ?_
      rotate_left
      · intro w hSw; (try dsimp only at hSw); go_simp; (try with_reducible rfl)
      try simp only [Act.put, List.setIfInBounds_toArray, List.set_cons_zero, List.set_cons_succ]
      refine wpAnyK_takeL (i := 9) (v := ?_) rfl (by kernel_rfl) (by kernel_rfl) (by kernel_rfl) (by kernel_rfl) (fun _ _ _ h => h) (Or.inl ⟨by rfl, ?_⟩) hHeld ?_
      rotate_left
      · intro w hSw; (try dsimp only at hSw); go_simp; (try with_reducible rfl)
      try simp only [Act.put, List.setIfInBounds_toArray, List.set_cons_zero, List.set_cons_succ]
      refine wpAnyK_takeL (i := 10) (v := ?_) rfl (by kernel_rfl) (by kernel_rfl) (by kernel_rfl) (by kernel_rfl) (fun _ _ _ h => h) (Or.inl ⟨by rfl, ?_⟩) hHeld ?_
      rotate_left
      · intro w hSw; (try dsimp only at hSw); go_simp; (try with_reducible rfl)
      try simp only [Act.put, List.setIfInBounds_toArray, List.set_cons_zero, List.set_cons_succ]
      refine wpAnyK_takeL (i := 11) (v := ?_) rfl (by kernel_rfl) (by kernel_rfl) (by kernel_rfl) (by kernel_rfl) (fun _ _ _ h => h) (Or.inl ⟨by rfl, ?_⟩) hHeld ?_
      rotate_left
      · intro w hSw; (try dsimp only at hSw); go_simp; (try with_reducible rfl)
      try simp only [Act.put, List.setIfInBounds_toArray, List.set_cons_zero, List.set_cons_succ]
      refine wpAnyK_ready (rs := [12]) (by kernel_rfl) (by simp) ?_
      refine AllReadyK.consL (i := 12) rfl (fun K hK => ?_) ?_
      · refine step_build1 tSigs rfl rfl (v := .agg #[.int .i64 xf, .int .i64 xt, .int .i64 xa, .int .i64 xd, .int .u64 xs]) rfl [.int .i64 xf, .int .i64 xt, .int .i64 xa, .int .i64 xd, .int .u64 xs] (by omega) rfl rfl ?_
        intro b1 wB hx hl2 hb2 hc
        have hv2 := owns_ext HV.out hx
        have hx2 := HX.out.tr hx
        clear HV HX hx hl2 hb2
        refine hK.out _ _ (fun _ => (HS5.out _ hx2)) (fun hHeld2 => ?_)
        clear hK K
        try clear hHeld
        have hHeld := hHeld2 (by decide)
        clear hHeld2
        try simp only [Act.put, List.setIfInBounds_toArray, List.set_cons_zero, List.set_cons_succ]
        have HV := Lib.hid hv2
        have HX := Lib.hid hx2
        have L1 := Lib.hid hc
        clear hv2 hx2 hc
        refine wpAnyK_ready (rs := [13]) (by kernel_rfl) (by simp) ?_
        refine AllReadyK.consL (i := 13) rfl (fun K hK => ?_) ?_
        · refine step_app tSigs (v := .slice a1 k c1) rfl rfl rfl HV.out rfl (cs := [.int .i64 xf, .int .i64 xt, .int .i64 xa, .int .i64 xd, .int .u64 xs]) rfl (by omega) L1.out (by simp [Value.oneCell']) (by omega) HX.out.size ?_
          intro v' wC q1 q2 q3 q4
          have hx3 := ext_grown HX.out HV.out q2
          clear HV HX L1 q2 q3 q4
          refine hK.out _ _ (fun _ => (HS5.out _ hx3)) (fun hHeld2 => ?_)
          clear hK K
          try clear hHeld
          have hHeld := hHeld2 (by decide)
          clear hHeld2
          try simp only [Act.put, List.setIfInBounds_toArray, List.set_cons_zero, List.set_cons_succ]
          have HV := Lib.hid q1
          have HX := Lib.hid hx3
          clear q1 hx3
          refine wpAnyK_takeL (i := 14) (v := ?_) rfl (by kernel_rfl) (by kernel_rfl) (by kernel_rfl) (by kernel_rfl) (fun _ _ _ h => h) (Or.inl ⟨by rfl, ?_⟩) hHeld ?_
          rotate_left
          · intro w hSw; (try dsimp only at hSw); go_simp; (try with_reducible rfl)
          try simp only [Act.put, List.setIfInBounds_toArray, List.set_cons_zero, List.set_cons_succ]
          clear hHeld
          refine wpAnyK_done (by kernel_rfl) ?_ _
          go_wp2
          go_roundw
          case rel => exact ⟨k + 1, by omega, by go_num, Lib.hid (by rw [HF.out]; exact HV.out), HX⟩
          case measure => simp [intOf]; omega
        · exact AllReadyK.nil
      · exact AllReadyK.nil
    · obtain rfl : k = l.length := by omega
      have hv := HV.out
      rw [List.take_length] at hv
      have HV2 := Lib.hid hv
      clear hlt hv
      go_wp2
      go_ret
      exact ⟨_, rfl, HX.out, HV2.out⟩
end Go.Proofs.Ytekplfbfkfiabaa
