/- register.Settle. -/
import Derived.Test.YtafnadaahnkcmaaFuncs
namespace Go.Proofs.Ytafnadaahnkcmaa
open Go.RowKit
set_option linter.unusedVariables false

theorem settle_bad (l : Loop) (e : Int) (w : World) (h : ¬ l.Ok) :
    Calls Try.prog 16 #[l.val, .int .i64 e] w fun x w' => x = .returned (.tuple #[.int .i64 0, .int .i64 60]) ∧ Ext w w' := by
  obtain ⟨d, n, b, s⟩ := l
  have hv : (⟨d, n, b, s⟩ : Loop).err = 60 := by simp [Loop.err, h]
  have HV := Lib.hid hv
  clear hv h
  unfold Loop.val
  dsimp only
  go_enter Try.func16, Try.ntmps16
  go_wp2_with (go_at_call 36; refine (check_any ⟨d, n, b, s⟩ _).mono ?_; rintro x w1 ⟨rfl, hb⟩; rw [HV.out])
  go_ret2
  exact ⟨rfl, ((Below.refl _ _).alloc (Nat.le_refl _) _).trans (hb.mono (by simp))⟩

theorem settle_far (l : Loop) (e : Int) (w : World) (h : l.Ok) (he : ¬ (-1000000 ≤ e ∧ e ≤ 1000000)) :
    Calls Try.prog 16 #[l.val, .int .i64 e] w fun x w' => x = .returned (.tuple #[.int .i64 0, .int .i64 6]) ∧ Ext w w' := by
  obtain ⟨d, n, b, s⟩ := l
  have hv : (⟨d, n, b, s⟩ : Loop).err = 0 := by simp [Loop.err, h]
  have HV := Lib.hid hv
  have hbt : ([e].any fun x => !inB x (-1000000) 1000000) = true := by simp [inB]; omega
  have HB := Lib.hid hbt
  clear hv h hbt
  unfold Loop.val
  dsimp only
  go_enter Try.func16, Try.ntmps16
  go_wp2_with (first
    | (go_at_call 36; refine (check_any ⟨d, n, b, s⟩ _).mono ?_; rintro x w1 ⟨rfl, hb⟩; rw [HV.out])
    | (go_at_call 37; refine (beyond_any [e] _ 1000000 _ (Sl.lit1 _ _ _ _) (by omega)).mono ?_; rintro x w2 ⟨rfl, hb2⟩; rw [HB.out]))
  go_ret2
  exact ⟨rfl, (((ext_lit w _ _).tr hb).tr (ext_lit _ _ _)).tr hb2⟩

theorem farL_one (e : Int) : farL [e] = max e (-e) := by simp [farL]; omega

/-- register.Settle, where it settles: the copies. -/
def Loop.over (l : Loop) (e : Int) : Int := max e (-e) - (l.step - l.blur)
def Loop.gain (l : Loop) : Int := l.step - l.noise
def Loop.settle (l : Loop) (e : Int) : Int := if l.over e ≤ 0 then l.dead + 1 else l.dead + 1 + (l.over e + l.gain - 1) / l.gain

set_option maxHeartbeats 1000000 in
theorem settle_ok (l : Loop) (e : Int) (w : World) (h : l.Ok) (he : -1000000 ≤ e ∧ e ≤ 1000000) (hg : l.over e ≤ 0 ∨ l.gain ≠ 0) :
    Calls Try.prog 16 #[l.val, .int .i64 e] w fun x w' => x = .returned (.tuple #[.int .i64 (l.settle e), .int .i64 0]) ∧ Ext w w' := by
  obtain ⟨d, n, b, s⟩ := l
  have hv : (⟨d, n, b, s⟩ : Loop).err = 0 := by simp [Loop.err, h]
  have HV := Lib.hid hv
  have hbt : ([e].any fun x => !inB x (-1000000) 1000000) = false := by simp [inB]; omega
  have HB := Lib.hid hbt
  unfold Loop.Ok at h
  unfold Loop.val
  dsimp only at h ⊢
  obtain ⟨⟨a1, a2⟩, ⟨a3, a4⟩, ⟨a5, a6⟩, a7, a8, a9⟩ := h
  obtain ⟨e1, e2⟩ := he
  have HF := Lib.hid (farL_one e)
  have f1 : 0 ≤ farL [e] := by rw [HF.out]; omega
  have f2 : farL [e] ≤ 1000000 := by rw [HF.out]; omega
  clear hv hbt
  have hset1 : farL [e] - (s - b) ≤ 0 → (⟨d, n, b, s⟩ : Loop).settle e = d + 1 := fun ho => by
    rw [HF.out] at ho; simp [Loop.settle, Loop.over, ho]
  have hset2 : ¬ farL [e] - (s - b) ≤ 0 → (⟨d, n, b, s⟩ : Loop).settle e = d + 1 + (farL [e] - (s - b) + (s - n) - 1) / (s - n) ∧ 1 ≤ s - n := fun ho => by
    rw [HF.out] at ho ⊢
    refine ⟨by simp [Loop.settle, Loop.over, Loop.gain, ho], ?_⟩
    simp only [Loop.over, Loop.gain] at hg; omega
  have HS1 := Lib.hid hset1
  have HS2 := Lib.hid hset2
  clear hset1 hset2 hg
  have g1 : IntKind.i64.wrap (s - b) = s - b := i64_eq _ (by omega)
  have g2 : IntKind.i64.wrap (s - n) = s - n := i64_eq _ (by omega)
  have g3 : IntKind.i64.wrap (farL [e] - (s - b)) = farL [e] - (s - b) := i64_eq _ (by omega)
  have G1 := Lib.hid g1
  have G2 := Lib.hid g2
  have G3 := Lib.hid g3
  clear g1 g2 g3
  go_enter Try.func16, Try.ntmps16
  go_wp2_with (first
    | (go_at_call 36; refine (check_any ⟨d, n, b, s⟩ _).mono ?_; rintro x w1 ⟨rfl, hb⟩; rw [HV.out])
    | (go_at_call 37; refine (beyond_any [e] _ 1000000 _ (Sl.lit1 _ _ _ _) (by omega)).mono ?_; rintro x w2 ⟨rfl, hb2⟩; rw [HB.out]))
  have c0 : w2.cell? ⟨w.heap.size, 0, none⟩ = some (.int .i64 d) := hb2.cellSome ((ext_lit w1 _ _).cellSome (hb.cellSome (by simp)))
  have c1 : w2.cell? ⟨w.heap.size, 1, none⟩ = some (.int .i64 n) := hb2.cellSome ((ext_lit w1 _ _).cellSome (hb.cellSome (by simp)))
  have c2 : w2.cell? ⟨w.heap.size, 2, none⟩ = some (.int .i64 b) := hb2.cellSome ((ext_lit w1 _ _).cellSome (hb.cellSome (by simp)))
  have c3 : w2.cell? ⟨w.heap.size, 3, none⟩ = some (.int .i64 s) := hb2.cellSome ((ext_lit w1 _ _).cellSome (hb.cellSome (by simp)))
  have HX : Hid (Ext w w2) := (((ext_lit w _ _).tr hb).tr (ext_lit _ _ _)).tr hb2
  clear hb hb2
  have g1 := G1.out
  have g2 := G2.out
  have g3 := G3.out
  go_region_held3 (fun wr => wr.cell? ⟨w.heap.size, 0, none⟩ = some (.int .i64 d) ∧ wr.cell? ⟨w.heap.size, 1, none⟩ = some (.int .i64 n) ∧ wr.cell? ⟨w.heap.size, 2, none⟩ = some (.int .i64 b) ∧ wr.cell? ⟨w.heap.size, 3, none⟩ = some (.int .i64 s))
    ((go_split_ands; refine ⟨?_, ?_, ?_, ?_⟩ <;> (first | assumption | exact (ext_lit _ _ _).cellSome (by assumption))))
    ((first | (go_at_call 38; refine (far_any [e] _ _ (Sl.lit1 _ _ _ _).drew (by simp; omega)).mono ?_; rintro x w3 ⟨rfl, rfl⟩)))
  clear c0 c1 c2 c3 g1 g2 g3
  go_split_ands
  have HX2 : Hid (Ext w ((w2.alloc (Obj.cells #[Value.int IntKind.i64 e] 3)).drew)) := (HX.out.tr (ext_lit _ _ _)).drew
  generalize (w2.alloc (Obj.cells #[Value.int IntKind.i64 e] 3)).drew = w4 at *
  by_cases ho : farL [e] - (s - b) ≤ 0
  · go_wp2
    go_ret2
    exact ⟨by rw [HS1.out (by omega)]; rfl, HX2.out⟩
  · obtain ⟨hs, hgn⟩ := HS2.out (by omega)
    have HS := Lib.hid hs
    have q1 : 0 ≤ (farL [e] - (s - b) + (s - n) - 1) / (s - n) := Int.ediv_nonneg (by omega) (by omega)
    have q2 : (farL [e] - (s - b) + (s - n) - 1) / (s - n) ≤ farL [e] - (s - b) + (s - n) - 1 := Int.ediv_le_self _ (by omega)
    have hne : ((s - n : Int) == 0) = false := by simp; omega
    clear hs HS1 HS2
    go_wp2
    go_quiet (fail)
    go_wp2
    go_ret2
    exact ⟨by rw [HS.out]; rfl, HX2.out.drewN _⟩
set_option maxHeartbeats 1000000 in
theorem settle_none (l : Loop) (e : Int) (w : World) (h : l.Ok) (he : -1000000 ≤ e ∧ e ≤ 1000000) (hg1 : 0 < l.over e) (hg2 : l.gain = 0) :
    Calls Try.prog 16 #[l.val, .int .i64 e] w fun x w' => x = .returned (.tuple #[.int .i64 0, .int .i64 4]) ∧ Ext w w' := by
  obtain ⟨d, n, b, s⟩ := l
  have hv : (⟨d, n, b, s⟩ : Loop).err = 0 := by simp [Loop.err, h]
  have HV := Lib.hid hv
  have hbt : ([e].any fun x => !inB x (-1000000) 1000000) = false := by simp [inB]; omega
  have HB := Lib.hid hbt
  unfold Loop.Ok at h
  unfold Loop.val
  dsimp only at h ⊢
  obtain ⟨⟨a1, a2⟩, ⟨a3, a4⟩, ⟨a5, a6⟩, a7, a8, a9⟩ := h
  obtain ⟨e1, e2⟩ := he
  have HF := Lib.hid (farL_one e)
  have f1 : 0 ≤ farL [e] := by rw [HF.out]; omega
  have f2 : farL [e] ≤ 1000000 := by rw [HF.out]; omega
  clear hv hbt
  have ho : 0 < farL [e] - (s - b) := by rw [HF.out]; simpa [Loop.over] using hg1
  have hgn : s - n = 0 := by simpa [Loop.gain] using hg2
  have HN := Lib.hid hgn
  clear hg1 hg2 hgn
  have g1 : IntKind.i64.wrap (s - b) = s - b := i64_eq _ (by omega)
  have g2 : IntKind.i64.wrap (s - n) = s - n := i64_eq _ (by omega)
  have g3 : IntKind.i64.wrap (farL [e] - (s - b)) = farL [e] - (s - b) := i64_eq _ (by omega)
  have G1 := Lib.hid g1
  have G2 := Lib.hid g2
  have G3 := Lib.hid g3
  clear g1 g2 g3
  go_enter Try.func16, Try.ntmps16
  go_wp2_with (first
    | (go_at_call 36; refine (check_any ⟨d, n, b, s⟩ _).mono ?_; rintro x w1 ⟨rfl, hb⟩; rw [HV.out])
    | (go_at_call 37; refine (beyond_any [e] _ 1000000 _ (Sl.lit1 _ _ _ _) (by omega)).mono ?_; rintro x w2 ⟨rfl, hb2⟩; rw [HB.out]))
  have c0 : w2.cell? ⟨w.heap.size, 0, none⟩ = some (.int .i64 d) := hb2.cellSome ((ext_lit w1 _ _).cellSome (hb.cellSome (by simp)))
  have c1 : w2.cell? ⟨w.heap.size, 1, none⟩ = some (.int .i64 n) := hb2.cellSome ((ext_lit w1 _ _).cellSome (hb.cellSome (by simp)))
  have c2 : w2.cell? ⟨w.heap.size, 2, none⟩ = some (.int .i64 b) := hb2.cellSome ((ext_lit w1 _ _).cellSome (hb.cellSome (by simp)))
  have c3 : w2.cell? ⟨w.heap.size, 3, none⟩ = some (.int .i64 s) := hb2.cellSome ((ext_lit w1 _ _).cellSome (hb.cellSome (by simp)))
  have HX : Hid (Ext w w2) := (((ext_lit w _ _).tr hb).tr (ext_lit _ _ _)).tr hb2
  clear hb hb2
  have g1 := G1.out
  have g2 := G2.out
  have g3 := G3.out
  go_region_held3 (fun wr => wr.cell? ⟨w.heap.size, 0, none⟩ = some (.int .i64 d) ∧ wr.cell? ⟨w.heap.size, 1, none⟩ = some (.int .i64 n) ∧ wr.cell? ⟨w.heap.size, 2, none⟩ = some (.int .i64 b) ∧ wr.cell? ⟨w.heap.size, 3, none⟩ = some (.int .i64 s))
    ((go_split_ands; refine ⟨?_, ?_, ?_, ?_⟩ <;> (first | assumption | exact (ext_lit _ _ _).cellSome (by assumption))))
    ((first | (go_at_call 38; refine (far_any [e] _ _ (Sl.lit1 _ _ _ _).drew (by simp; omega)).mono ?_; rintro x w3 ⟨rfl, rfl⟩)))
  clear c0 c1 c2 c3 g1 g2 g3
  go_split_ands
  have HX2 : Hid (Ext w ((w2.alloc (Obj.cells #[Value.int IntKind.i64 e] 3)).drew)) := (HX.out.tr (ext_lit _ _ _)).drew
  generalize (w2.alloc (Obj.cells #[Value.int IntKind.i64 e] 3)).drew = w4 at *
  have hne : ((s - n : Int) == 0) = true := by rw [HN.out]; rfl
  go_wp2
  go_ret2
  exact ⟨rfl, HX2.out⟩

end Go.Proofs.Ytafnadaahnkcmaa
