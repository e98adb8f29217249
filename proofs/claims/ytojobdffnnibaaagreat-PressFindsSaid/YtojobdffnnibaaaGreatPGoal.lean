/- law07.goal: an own copy of a goal. -/
import Derived.Test.YtojobdffnnibaaaGreatJ8
import Derived.Test.YtojobdffnnibaaaGreatJ6
namespace Go.Proofs.YtojobdffnnibaaaGreat
open Go.RowKit
set_option linter.unusedVariables false
set_option linter.unusedSimpArgs false

set_option maxRecDepth 100000 in
set_option maxHeartbeats 2000000 in
theorem goal_any (g : GoalD) (vg : Value) (w : World) (hg : Truths w vg g.pressed) (hl : g.pressed.length ≤ 140737488355328) :
    Calls Tryz.prog 9 #[gV vg g] w fun e w' => ∃ v, e = .returned (gV v g) ∧ Ext w w' ∧ w'.ownsRow w.heap.size 4 1 v g.pressed.length (g.pressed.map .bool) := by
  have hct := fun w1 (k : Ext w w1) => copyTruths_any g.pressed vg w1 (Sl.ext hg k) hl
  obtain ⟨_, aj, cj, rfl, _⟩ := hg
  rw [List.length_map] at *
  unfold gV
  have HCT := Lib.hid hct
  clear hct
  go_enter Tryz.func9, Tryz.ntmps9
  go_upto_region 1 with (first
    | (with_reducible refine wpList_boxA (t := 29) (cs := #[.int .i64 g.drive, .slice aj g.pressed.length cj]) rfl rfl rfl ?_
       rintro xb w1 hx1 hx2 hx3
       have XB := Lib.hid hx1
       have X1 := Lib.hid hx2
       clear hx1 hx2
       clear hx3)
    | (with_reducible refine wpList_allocA (t := 40) rfl rfl Tryz.zeroValue40 ?_
       rintro rb w2 hy1 hy2 hy3
       have x2 := X1.out.tr hy2
       have xb2 := XB.out.ext hy2
       have l2 : w.heap.size ≤ rb := Nat.le_trans X1.out.size hy3
       clear XB X1
       have XB := Lib.hid xb2
       have X1 := Lib.hid x2
       have RB := Lib.hid hy1
       have LR := Lib.hid l2
       clear xb2 x2 hy1 l2
       clear hy3 hy2))
  have hxd : Ext w2 w2.drew := (Below.refl _ w2).drew
  have xb2 := XB.out.ext hxd
  have rb2 := RB.out.ext hxd
  have x2 := X1.out.tr hxd
  clear XB RB X1
  refine wp_region_K (fun wx => ∀ i, wx.cell? ⟨xb, i, none⟩ = (#[.int .i64 g.drive, .slice aj g.pressed.length cj] : Array Value)[i]?) 6 (by kernel_rfl) xb2.cell (fun hHeld => ?_)
  generalize w2.drew = wA at *
  have XB := Lib.hid xb2
  have RB := Lib.hid rb2
  have X1 := Lib.hid x2
  clear xb2 rb2 x2
  clear hxd
  refine kT (i := 0) (v := ?_) rfl (fun _ _ _ h => h) (Or.inl ⟨by rfl, ?_⟩) hHeld ?_
  rotate_left
  · intro w hSw; (try dsimp only at hSw); go_simp; (try with_reducible rfl)
  try simp only [kA, kB, kC, kD, kE]
  refine kT (i := 1) (v := ?_) rfl (fun _ _ _ h => h) (Or.inl ⟨by rfl, ?_⟩) hHeld ?_
  rotate_left
  · intro w hSw; (try dsimp only at hSw); go_simp; (try with_reducible rfl)
  try simp only [kA, kB, kC, kD, kE]
  refine kT (i := 2) (v := ?_) rfl (fun _ _ _ h => h) (Or.inl ⟨by rfl, ?_⟩) hHeld ?_
  rotate_left
  · intro w hSw; (try dsimp only at hSw); go_simp; (try with_reducible rfl)
  try simp only [kA, kB, kC, kD, kE]
  refine kT (i := 3) (v := ?_) rfl (fun _ _ _ h => h) (Or.inl ⟨by rfl, ?_⟩) hHeld ?_
  rotate_left
  · intro w hSw; (try dsimp only at hSw); go_simp; (try with_reducible rfl)
  try simp only [kA, kB, kC, kD, kE]
  refine wpAnyK_ready (rs := [4]) (by kernel_rfl) (by simp) ?_
  refine AllReadyK.consL (i := 4) rfl (fun K hK => ?_) ?_
  · refine step_call (vs := #[.slice aj g.pressed.length cj]) rfl rfl rfl Tryz.func30 (by kernel_rfl) (by kernel_rfl) (HCT.out _ X1.out) ?_
    rintro e wy ⟨v, rfl, hx, ho⟩
    refine ⟨_, rfl, ?_⟩
    obtain ⟨a5, c5, rfl⟩ := row_form ho
    have xb2 := XB.out.ext hx
    have rb2 := RB.out.ext hx
    have x2 := X1.out.tr hx
    have ho2 := owns_weak ho X1.out.size
    have hnb : ∀ b, (Value.slice a5 g.pressed.length c5).ownBlock = some b → b ≠ rb := fun b hb e => by
      have h1 := (ho.lt b hb).1
      have h2 := RB.out.lt
      omega
    clear XB RB X1 hx ho
    have XB := Lib.hid xb2
    have RB := Lib.hid rb2
    have X1 := Lib.hid x2
    have HO := Lib.hid ho2
    have HNB := Lib.hid hnb
    clear xb2 rb2 x2 ho2 hnb
    refine hK.out _ _ (fun _ => XB.out.cell) (fun hHeld2 => ?_)
    clear hK K
    try clear hHeld
    have hHeld := hHeld2 (by decide)
    clear hHeld2
    try simp only [kA, kB, kC, kD, kE]
    refine kT (i := 5) (v := ?_) rfl (fun _ _ _ h => h) (Or.inl ⟨by rfl, ?_⟩) hHeld ?_
    rotate_left
    · intro w hSw; (try dsimp only at hSw); go_simp; (try with_reducible rfl)
    try simp only [kA, kB, kC, kD, kE]
    refine wpAnyK_ready (rs := [6]) (by kernel_rfl) (by simp) ?_
    refine AllReadyK.consL (i := 6) rfl (fun K hK => ?_) ?_
    · refine step_storeK (cells := #[.int .i64 g.drive, .slice a5 g.pressed.length c5]) rfl rfl RB.out rfl rfl (by kernel_rfl) rfl (by simp [Value.oneCell']) ?_
      intro wz hb ho
      have k0 := hb.cell
      have x2 := X1.out.then_only ho (fun k (e : k = rb) => by rw [e]; exact LR.out)
      have ho2 := owns_only HO.out ho HNB.out
      clear X1 HO hb ho
      have X1 := Lib.hid x2
      have HO := Lib.hid ho2
      clear x2 ho2
      refine hK.out _ _ (fun h => absurd h (by decide)) (fun hHeld2 => ?_)
      clear hK K hHeld2
      try clear hHeld
      try simp only [kA, kB, kC, kD, kE]
      refine wpAnyK_done (by kernel_rfl) ?_ _
      go_wp2
      refine bodyPost_ret (v := gV (.slice a5 g.pressed.length c5) g) (by simp [results, Tryz.results9, go_sem, k0, gV]) rfl ?_
      exact ⟨_, rfl, X1.out, HO.out⟩
    · exact AllReadyK.nil
  · exact AllReadyK.nil
end Go.Proofs.YtojobdffnnibaaaGreat
