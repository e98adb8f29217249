/- What Close's deferred function does: nothing without an error, else all is as it was. -/
import Derived.Test.YtekplfbfkfiabaaBkStk
import Derived.Deep.MidRow
import Derived.Defers
namespace Go.Proofs.Ytekplfbfkfiabaa
open Go.RowKit
set_option linter.unusedVariables false
set_option linter.unusedSimpArgs false

def putL (cs : Array Value) : Nat → List Value → Array Value
  | _, [] => cs
  | i, v :: r => putL (cs.setIfInBounds i v) (i + 1) r
theorem Blk.setCells {b : Nat} {t : TypeId} : ∀ (vs : List Value) (i : Nat) (w : World) (cs : Array Value), Blk w b cs t → Blk (w.setCells b i vs) b (putL cs i vs) t
  | [], _, _, _, h => h
  | v :: r, i, w, cs, h => Blk.setCells r (i + 1) _ _ (blk_set h i v)
theorem Only.setCells (b : Nat) : ∀ (vs : List Value) (i : Nat) (w : World), Only (fun k => k = b) w (w.setCells b i vs)
  | [], _, w => Only.refl _ w
  | v :: r, i, w => (Only.set (S := fun k => k = b) w ⟨b, i, none⟩ v rfl).tr (Only.setCells b r (i + 1) _)
theorem putL_mid (post : List Value) : ∀ (ys xs pre : List Value), xs.length = ys.length → putL (pre ++ (xs ++ post)).toArray pre.length ys = (pre ++ (ys ++ post)).toArray
  | [], xs, pre, h => by
    cases xs with
    | nil => rfl
    | cons x xs => simp at h
  | y :: ys, xs, pre, h => by
    cases xs with
    | nil => simp at h
    | cons x xs =>
      have h1 := putL_mid post ys xs (pre ++ [y]) (by simpa using h)
      unfold putL
      have e1 : (pre ++ (x :: xs ++ post)).toArray.setIfInBounds pre.length y = ((pre ++ [y]) ++ (xs ++ post)).toArray := by
        rw [List.setIfInBounds_toArray]
        congr 1
        rw [List.set_append_right _ _ (Nat.le_refl _), Nat.sub_self]
        simp
      have e2 : pre.length + 1 = (pre ++ [y]).length := by simp
      rw [e1, e2, h1]
      simp
theorem ledA_back (d d' : LedD) (m : LMem) (v : Value) (hk : d'.key = d.key) (hc : d'.closed = d.closed) :
    (putL (ledA d' m) 3 (balC d)).setIfInBounds 2 v = ledA d { m with ve := v } := by
  have h := putL_mid [Value.int .i64 d'.closed] (balC d) (balC d') [Value.pointer (some ⟨m.ab, 0, none⟩), .int .u64 d'.key, m.ve] (by rw [balC_len, balC_len])
  have e : (ledA d' m) = ([Value.pointer (some ⟨m.ab, 0, none⟩), .int .u64 d'.key, m.ve] ++ (balC d' ++ [Value.int .i64 d'.closed])).toArray := rfl
  rw [e]
  have e2 := h
  have e3 : [Value.pointer (some ⟨m.ab, 0, none⟩), .int .u64 d'.key, m.ve].length = 3 := rfl
  rw [e3] at e2
  rw [e2, hk, hc]
  rfl
theorem balC_one (d : LedD) : ∀ v ∈ balC d, v.oneCell' = true := by
  intro v hv
  unfold balC at hv
  obtain ⟨i, _, rfl⟩ := List.mem_map.1 hv
  rfl
theorem Blk.range {w : World} {b o : Nat} {cs : Array Value} {t : TypeId} (h : Blk w b cs t) (vs : List Value) (hv : ∀ j v, vs[j]? = some v → cs[o + j]? = some v) : w.rangeAt b o vs := fun j v hj => by
  rw [h.cell]; exact hv j v hj
theorem ledA_range (d : LedD) (m : LMem) : ∀ j v, (balC d)[j]? = some v → (ledA d m)[3 + j]? = some v := by
  intro j v hj
  have hl : j < (balC d).length := (List.getElem?_eq_some_iff.1 hj).1
  have e : 3 + j = j + 1 + 1 + 1 := by omega
  rw [e]
  simp [ledA]
  rw [List.getElem?_append_left hl, hj]
theorem Blk.there {w : World} {b o n : Nat} {cs : Array Value} {t : TypeId} (h : Blk w b cs t) (hn : o + n ≤ cs.size) : w.there b o n := fun j hj => by
  rw [h.cell]
  exact ⟨by rw [Array.getElem?_eq_getElem (show o + j < cs.size by omega)]; rfl, h.free _⟩

theorem putL_size : ∀ (vs : List Value) (i : Nat) (cs : Array Value), (putL cs i vs).size = cs.size
  | [], _, _ => rfl
  | v :: r, i, cs => by unfold putL; rw [putL_size r]; simp
theorem putL_before : ∀ (vs : List Value) (i j : Nat) (cs : Array Value), j < i → (putL cs i vs)[j]? = cs[j]?
  | [], _, _, _, _ => rfl
  | v :: r, i, j, cs, h => by unfold putL; rw [putL_before r (i + 1) j _ (by omega), Array.getElem?_setIfInBounds_ne (by omega)]
section
variable {P : Program} {w : World} {ops : Array Oper} {o : Oper} {a : Act} {Q : Exit → Act → World → Prop} {K : Act → World → Prop} {E : Prop}
/-- Cells are stored into the midst of a block, in a region that draws. -/
theorem step_setMid (hgd : o.guard = none) {ty : TypeId} {x y : Operand} (ho : o.op = .store ty x y) {b i : Nat} {vs : List Value} {cs : Array Value} {t : TypeId}
    (hb : Blk w b cs t) (hx : a.eval x = .pointer (some ⟨b, i, none⟩)) (hy : a.eval y = .agg vs.toArray) (hlt : i + vs.toArray.size ≤ cs.size) (hsz : (P.info? ty).map (·.size) = some vs.toArray.size)
    (h1 : ∀ v ∈ vs, v.oneCell' = true)
    (h : ∀ w1, Blk w1 b (putL cs i vs) t → Only (fun k => k = b) w w1 → K (a.put o.dst undef) w1) :
    if Region.wanted o (yielded ops a.tmps) = true then Oper.wp P o a w K Q else E := by
  have hw : Region.wanted o (yielded ops a.tmps) = true := by simp [Region.wanted, hgd]
  rw [if_pos hw]
  refine wp_store_mid ty x y ho b i vs.toArray hx hy (hb.there hlt) hsz (all_oneCell_toArray h1) ?_
  have e : vs.toArray.toList = vs := by simp
  rw [e]
  exact h _ (hb.setCells vs i w cs) (Only.setCells b vs i w)
end
theorem undo_zero (eb wb bb nb fb : Nat) (u : FrameMode) (w : World) (he : w.cell? ⟨eb, 0, none⟩ = some (.int .i64 0)) :
    CallsD Try.prog 71 #[.pointer (some ⟨eb, 0, none⟩), .pointer (some ⟨wb, 0, none⟩), .pointer (some ⟨bb, 0, none⟩), .pointer (some ⟨nb, 0, none⟩), .pointer (some ⟨fb, 0, none⟩)] u w fun e u' w' => u' = u ∧ (e = .returned (.tuple #[]) ∧ w' = w) := by
  go_enter_d Try.func71, Try.ntmps71
  go_wp2
  go_end0
  exact ⟨rfl, rfl⟩

theorem t40u : Try.prog.underlying 95 = some (.array 40 3) := by kernel_rfl
set_option maxRecDepth 100000 in
set_option maxHeartbeats 2000000 in
theorem undo_some (eb wb bb nb fb lb : Nat) (er : Int) (d d' : LedD) (m : LMem) (a : Option Addr) (n n' c : Nat) (vd : Value) (u : FrameMode) (w : World) (h0 : (er != 0) = true)
    (he : w.cell? ⟨eb, 0, none⟩ = some (.int .i64 er)) (hw : Blk w wb (balC d).toArray 95) (hb : w.cell? ⟨bb, 0, none⟩ = some (.pointer (some ⟨lb, 0, none⟩)))
    (hn : w.cell? ⟨nb, 0, none⟩ = some (.int .i64 n)) (hf : Blk w fb #[vd] 22) (hl : Blk w lb (ledA d' m) 97) (hv : m.ve = .slice a n' c) (hnc : n ≤ c) (hna : a = none → n = 0 ∧ c = 0)
    (n1 : fb ≠ wb) (n2 : fb ≠ bb) (n3 : fb ≠ nb) (n4 : fb ≠ lb) (n5 : lb ≠ wb) (n6 : lb ≠ bb) (n7 : lb ≠ nb) :
    CallsD Try.prog 71 #[.pointer (some ⟨eb, 0, none⟩), .pointer (some ⟨wb, 0, none⟩), .pointer (some ⟨bb, 0, none⟩), .pointer (some ⟨nb, 0, none⟩), .pointer (some ⟨fb, 0, none⟩)] u w fun e u' w' => u' = u ∧ (e = .returned (.tuple #[]) ∧
      Blk w' lb ((putL (ledA d' m) 3 (balC d)).setIfInBounds 2 (.slice a n c)) 97 ∧ Blk w' fb #[.slice none 0 0] 22 ∧ Only (fun k => k = lb ∨ k = fb) w w') := by
  have hl2 : w.cell? ⟨lb, 2, none⟩ = some (.slice a n' c) := by rw [hl.cell, ← hv]; rfl
  go_enter_d Try.func71, Try.ntmps71
  go_upto_region 1 with (fail)
  have hxd : Ext w w.drew := (Below.refl _ w).drew
  refine wp_region_K (fun wx => wx.cell? ⟨bb, 0, none⟩ = some (.pointer (some ⟨lb, 0, none⟩)) ∧ wx.cell? ⟨nb, 0, none⟩ = some (.int .i64 n) ∧ wx.cell? ⟨lb, 2, none⟩ = some (.slice a n' c) ∧ Blk wx wb (balC d).toArray 95) 15 (by kernel_rfl) ⟨hxd.cellSome hb, hxd.cellSome hn, hxd.cellSome hl2, hw.ext hxd⟩ (fun hHeld => ?_)
  have HL := Lib.hid (hl.ext hxd)
  have HF := Lib.hid (hf.ext hxd)
  have HO : Hid (Only (fun k => k = lb ∨ k = fb) w w.drew) := Only.of_ext hxd
  clear he hw hb hn hf hl hl2 hxd
  generalize w.drew = wA at *
  refine wpAnyK_takeL (i := 0) (v := ?_) rfl (by kernel_rfl) (by kernel_rfl) (by kernel_rfl) (by kernel_rfl) (fun _ _ _ h => h) (Or.inl ⟨by rfl, ?_⟩) hHeld ?_
  rotate_left
  · intro w hSw; (try dsimp only at hSw); go_simp; (try with_reducible rfl)
  try simp only [Act.put, List.setIfInBounds_toArray, List.set_cons_zero, List.set_cons_succ]
  refine wpAnyK_takeL (i := 1) (v := ?_) rfl (by kernel_rfl) (by kernel_rfl) (by kernel_rfl) (by kernel_rfl) (fun _ _ _ h => h) (Or.inl ⟨by rfl, ?_⟩) hHeld ?_
  rotate_left
  · intro w hSw; (try dsimp only at hSw); go_simp; (try with_reducible rfl)
  try simp only [Act.put, List.setIfInBounds_toArray, List.set_cons_zero, List.set_cons_succ]
  refine wpAnyK_takeL (i := 2) (v := .agg (balC d).toArray) rfl (by kernel_rfl) (by kernel_rfl) (by kernel_rfl) (by kernel_rfl) (fun _ _ _ h => h) (yieldsIf_load_mid (by rfl) 95 _ rfl wb 0 rfl (balC d) _ (fun w hSw => Blk.range hSw.2.2.2 _ (fun j v hj => by rw [Nat.zero_add]; simpa using hj)) t40u rfl (by rw [balC_len]; kernel_rfl)) hHeld ?_
  try simp only [Act.put, List.setIfInBounds_toArray, List.set_cons_zero, List.set_cons_succ]
  refine wpAnyK_takeL (i := 3) (v := ?_) rfl (by kernel_rfl) (by kernel_rfl) (by kernel_rfl) (by kernel_rfl) (fun _ _ _ h => h) (Or.inl ⟨by rfl, ?_⟩) hHeld ?_
  rotate_left
  · intro w hSw; (try dsimp only at hSw); go_simp; (try with_reducible rfl)
  try simp only [Act.put, List.setIfInBounds_toArray, List.set_cons_zero, List.set_cons_succ]
  refine wpAnyK_takeL (i := 4) (v := ?_) rfl (by kernel_rfl) (by kernel_rfl) (by kernel_rfl) (by kernel_rfl) (fun _ _ _ h => h) (Or.inl ⟨by rfl, ?_⟩) hHeld ?_
  rotate_left
  · intro w hSw; (try dsimp only at hSw); go_simp; (try with_reducible rfl)
  try simp only [Act.put, List.setIfInBounds_toArray, List.set_cons_zero, List.set_cons_succ]
  refine wpAnyK_takeL (i := 5) (v := ?_) rfl (by kernel_rfl) (by kernel_rfl) (by kernel_rfl) (by kernel_rfl) (fun _ _ _ h => h) (Or.inl ⟨by rfl, ?_⟩) hHeld ?_
  rotate_left
  · intro w hSw; (try dsimp only at hSw); go_simp; (try with_reducible rfl)
  try simp only [Act.put, List.setIfInBounds_toArray, List.set_cons_zero, List.set_cons_succ]
  refine wpAnyK_takeL (i := 6) (v := ?_) rfl (by kernel_rfl) (by kernel_rfl) (by kernel_rfl) (by kernel_rfl) (fun _ _ _ h => h) (Or.inl ⟨by rfl, ?_⟩) hHeld ?_
  rotate_left
  · intro w hSw; (try dsimp only at hSw); go_simp; (try with_reducible rfl)
  try simp only [Act.put, List.setIfInBounds_toArray, List.set_cons_zero, List.set_cons_succ]
  refine wpAnyK_takeL (i := 7) (v := ?_) rfl (by kernel_rfl) (by kernel_rfl) (by kernel_rfl) (by kernel_rfl) (fun _ _ _ h => h) (Or.inl ⟨by rfl, ?_⟩) hHeld ?_
  rotate_left
  · intro w hSw; (try dsimp only at hSw); go_simp; (try with_reducible rfl)
  try simp only [Act.put, List.setIfInBounds_toArray, List.set_cons_zero, List.set_cons_succ]
  refine wpAnyK_takeL (i := 8) (v := ?_) rfl (by kernel_rfl) (by kernel_rfl) (by kernel_rfl) (by kernel_rfl) (fun _ _ _ h => h) (Or.inl ⟨by rfl, ?_⟩) hHeld ?_
  rotate_left
  · intro w hSw; (try dsimp only at hSw); go_simp; (try with_reducible rfl)
  try simp only [Act.put, List.setIfInBounds_toArray, List.set_cons_zero, List.set_cons_succ]
  refine wpAnyK_ready (rs := [9]) (by kernel_rfl) (by simp) ?_
  refine AllReadyK.consL (i := 9) rfl (fun K hK => ?_) ?_
  · refine step_setK (i := 0) (v := .slice none 0 0) rfl rfl HF.out rfl rfl (by show 0 < 1; omega) (by kernel_rfl) rfl (by simp [Value.oneCell']) ?_
    intro w1 hw1 hb1 ho1
    have HF1 : Hid (Blk w1 fb #[.slice none 0 0] 22) := hb1
    have hb2 := ho1.cell hHeld.1 (fun e => n2 e.symm)
    have hn2 := ho1.cell hHeld.2.1 (fun e => n3 e.symm)
    have hl2 := ho1.cell hHeld.2.2.1 (fun e => n4 e.symm)
    have hw2 := hHeld.2.2.2.only ho1 (fun e => n1 e.symm)
    refine hK.out _ _ (fun _ => ⟨hb2, hn2, hl2, hw2⟩) (fun hHeld2 => ?_)
    clear hK K
    try clear hHeld
    have hHeld := hHeld2 (by decide)
    clear hHeld2
    try simp only [Act.put, List.setIfInBounds_toArray, List.set_cons_zero, List.set_cons_succ]
    replace HL := Lib.hid (HL.out.only ho1 (fun e => n4 e.symm))
    replace HO := Lib.hid (HO.out.tr (ho1.weak fun k _ hk => .inr hk))
    clear HF hb1 hw1 ho1 hb2 hn2 hl2 hw2
    refine wpAnyK_takeL (i := 10) (v := ?_) rfl (by kernel_rfl) (by kernel_rfl) (by kernel_rfl) (by kernel_rfl) (fun _ _ _ h => h) (Or.inl ⟨by rfl, ?_⟩) hHeld ?_
    rotate_left
    · intro w hSw; (try dsimp only at hSw); go_simp; (try with_reducible rfl)
    try simp only [Act.put, List.setIfInBounds_toArray, List.set_cons_zero, List.set_cons_succ]
    refine wpAnyK_takeL (i := 11) (v := ?_) rfl (by kernel_rfl) (by kernel_rfl) (by kernel_rfl) (by kernel_rfl) (fun _ _ _ h => h) (Or.inl ⟨by rfl, ?_⟩) hHeld ?_
    rotate_left
    · intro w hSw; (try dsimp only at hSw); go_simp; (try with_reducible rfl)
    try simp only [Act.put, List.setIfInBounds_toArray, List.set_cons_zero, List.set_cons_succ]
    refine wpAnyK_ready (rs := [12]) (by kernel_rfl) (by simp) ?_
    refine AllReadyK.consL (i := 12) rfl (fun K hK => ?_) ?_
    · refine step_setMid rfl rfl HL.out rfl rfl (by rw [List.size_toArray, balC_len, ledA_size]; decide) (by rw [List.size_toArray, balC_len]; kernel_rfl) (balC_one d) ?_
      intro w2 hb2 ho2
      have hbb := ho2.cell hHeld.1 (fun e => n6 e.symm)
      have hnn := ho2.cell hHeld.2.1 (fun e => n7 e.symm)
      have hll : w2.cell? ⟨lb, 2, none⟩ = some (.slice a n' c) := by
        rw [hb2.cell, putL_before _ _ _ _ (by decide), ← hv]; rfl
      have hww := hHeld.2.2.2.only ho2 (fun e => n5 e.symm)
      refine hK.out _ _ (fun _ => ⟨hbb, hnn, hll, hww⟩) (fun hHeld2 => ?_)
      clear hK K
      try clear hHeld
      have hHeld := hHeld2 (by decide)
      clear hHeld2
      try simp only [Act.put, List.setIfInBounds_toArray, List.set_cons_zero, List.set_cons_succ]
      replace HF1 := Lib.hid (HF1.out.only ho2 n4)
      replace HO := Lib.hid (HO.out.tr (ho2.weak fun k _ hk => .inl hk))
      clear HL ho2 hbb hnn hll hww
      refine wpAnyK_takeL (i := 13) (v := ?_) rfl (by kernel_rfl) (by kernel_rfl) (by kernel_rfl) (by kernel_rfl) (fun _ _ _ h => h) (Or.inl ⟨by rfl, ?_⟩) hHeld ?_
      rotate_left
      · intro w hSw; (try dsimp only at hSw); go_simp; (try with_reducible rfl)
      try simp only [Act.put, List.setIfInBounds_toArray, List.set_cons_zero, List.set_cons_succ]
      refine wpAnyK_takeL (i := 14) (v := ?_) rfl (by kernel_rfl) (by kernel_rfl) (by kernel_rfl) (by kernel_rfl) (fun _ _ _ h => h) (Or.inl ⟨by rfl, ?_⟩) hHeld ?_
      rotate_left
      · intro w hSw; (try dsimp only at hSw); go_simp; (try with_reducible rfl)
      try simp only [Act.put, List.setIfInBounds_toArray, List.set_cons_zero, List.set_cons_succ]
      refine wpAnyK_ready (rs := [15]) (by kernel_rfl) (by simp) ?_
      refine AllReadyK.consL (i := 15) rfl (fun K hK => ?_) ?_
      · refine step_setK (i := 2) (v := .slice a n c) rfl rfl hb2 rfl rfl (by rw [putL_size, ledA_size]; decide) (by kernel_rfl) rfl (by simp [Value.oneCell']) ?_
        intro w3 hw3 hb3 ho3
        refine hK.out _ _ (fun h => absurd h (by decide)) (fun hHeld2 => ?_)
        clear hK K hHeld2
        try clear hHeld
        try simp only [Act.put, List.setIfInBounds_toArray, List.set_cons_zero, List.set_cons_succ]
        refine wpAnyK_done (by kernel_rfl) ?_ _
        replace HF1 := Lib.hid (HF1.out.only ho3 n4)
        replace HO := Lib.hid (HO.out.tr (ho3.weak fun k _ hk => .inl hk))
        have HB3 := Lib.hid hb3
        clear hb3
        clear ho3 hb2 hw3
        go_wp2
        go_end0
        exact ⟨rfl, HB3.out, HF1.out, HO.out⟩
      · exact AllReadyK.nil
    · exact AllReadyK.nil
  · exact AllReadyK.nil
end Go.Proofs.Ytekplfbfkfiabaa
