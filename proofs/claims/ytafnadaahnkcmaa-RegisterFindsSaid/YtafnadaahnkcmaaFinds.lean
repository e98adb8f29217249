/- RegisterFinds: the walk. -/
import Derived.Test.YtafnadaahnkcmaaHits
import Derived.Test.YtafnadaahnkcmaaMapB
import Derived.Test.YtafnadaahnkcmaaHold
namespace Go.Proofs.Ytafnadaahnkcmaa
open Go.RowKit
set_option linter.unusedVariables false

theorem sliced_hi (a : Option Addr) (j c : Nat) : sliced a 0 j c 1 = .slice a j c := by
  unfold sliced
  have h : (if c = 0 then a else a.map (·.add (0 * 1))) = a := by
    split
    · rfl
    · cases a <;> rfl
  rw [h]; rfl
theorem run_hi (a : Option Addr) (n c j : Nat) (hj : j ≤ c) (w : World) : (Instr.slice 22 (.slice a n c) none (some (.int .i64 (j:Int))) none).run Try.prog w = .ok (.slice a j c) w := by
  have h := run_slice_h (P := Try.prog) w 22 a n c (by simp only [go_sem, Try.underlying22]) .i64 (j:Int) (by omega) (by omega)
  have hs : (sizeOf (Try.prog.elem 22)).run Try.prog w = .ok 1 w := by simp only [go_sem, Try.underlying22, Try.sizeOf3]
  rw [hs] at h
  refine h.trans ?_
  show Result.ok (sliced a 0 (j:Int).toNat c 1) w = _
  rw [Int.toNat_natCast, sliced_hi]
theorem run_lo (a : Option Addr) (n c j : Nat) (hj : j ≤ n) (w : World) : (Instr.slice 22 (.slice a n c) (some (.int .i64 (j:Int))) none none).run Try.prog w = .ok (.slice (if c = j then a else a.map (·.add j)) (n - j) (c - j)) w := by
  have h := run_slice_l (P := Try.prog) w 22 a n c (by simp only [go_sem, Try.underlying22]) .i64 (j:Int) (by omega) (by omega)
  have hs : (sizeOf (Try.prog.elem 22)).run Try.prog w = .ok 1 w := by simp only [go_sem, Try.underlying22, Try.sizeOf3]
  rw [hs] at h
  refine h.trans ?_
  simp only [Result.andThen, sliced, Int.toNat_natCast, Nat.mul_one]

theorem addr_add0 (g j : Nat) : (⟨g, 0, none⟩ : Addr).add j = ⟨g, j, none⟩ := by unfold Addr.add; split <;> simp_all
/-- A row of the call's own, cut at j. -/
theorem owns_cut {w : World} {base : Nat} {v : Value} {L : List Int} (h : w.ownsRow base 3 1 v L.length (L.map (.int .i64))) (j : Nat) (hj : j ≤ L.length) :
    ∃ v1 v2, (∀ w1, (Instr.slice 22 v none (some (.int .i64 (j:Int))) none).run Try.prog w1 = .ok v1 w1) ∧ (∀ w1, (Instr.slice 22 v (some (.int .i64 (j:Int))) none none).run Try.prog w1 = .ok v2 w1) ∧
      Ints w v1 (L.take j) ∧ Ints w v2 (L.drop j) := by
  have hi : Ints w v L := Sl.of_owns h
  have hm := hi.len
  rcases h.2 with ⟨rfl, h0⟩ | ⟨g, cap, cur, rfl, hb, hg, hc, hx, hs, ht⟩
  · have hL : L = [] := by simpa using h0
    subst hL
    obtain rfl : j = 0 := by simpa using hj
    exact ⟨_, _, fun w1 => run_hi none 0 0 0 (by omega) w1, fun w1 => run_lo none 0 0 0 (by omega) w1, Sl.nil w, Sl.nil w⟩
  · refine ⟨_, _, fun w1 => run_hi _ _ cap j (by omega) w1, fun w1 => run_lo _ _ cap j hj w1, ?_, ?_⟩
    · refine ⟨by simp; omega, some ⟨g, 0, none⟩, cap, by simp; omega, fun h => (by cases h), fun h0 => ⟨g, 0, rfl, fun i u hu => ?_⟩⟩
      obtain ⟨_, a, c, hv, _, hcc⟩ := hi
      obtain ⟨b, o, hab, hh⟩ := hcc (by simp at h0 ⊢; omega)
      injection hv with e1 e2 e3
      rw [hab] at e1
      injection e1 with e1; injection e1 with e1 e4
      subst e1; subst e4
      refine hh i u ?_
      rw [List.map_take, List.getElem?_take] at hu
      split at hu
      · exact hu
      · cases hu
    · refine ⟨by simp; omega, (if cap = j then some ⟨g, 0, none⟩ else (some (⟨g, 0, none⟩ : Addr)).map (·.add j)), cap - j, by simp, fun h => ?_, fun h0 => ?_⟩
      · split at h <;> cases h
      · have h1 : j < L.length := by simp at h0; omega
        have h2 : ¬ cap = j := by omega
        obtain ⟨_, a, c, hv, _, hcc⟩ := hi
        obtain ⟨b, o, hab, hh⟩ := hcc (by simp; omega)
        injection hv with e1 e2 e3
        rw [hab] at e1
        injection e1 with e1; injection e1 with e1 e4
        subst e1; subst e4
        rw [if_neg h2]
        refine ⟨g, j, ?_, fun i u hu => ?_⟩
        · exact congrArg some (addr_add0 g j)
        · rw [List.map_drop, List.getElem?_drop] at hu
          have := hh (j + i) u hu
          rw [Nat.zero_add] at this; exact this

theorem owns_new (w : World) (cs : List Value) (e : TypeId) (n c : Nat) (hl : cs.length = n) (hn : 0 < n) (hc : c = n) (hm : n ≤ 1000000 := by decide) : (w.alloc (.cells cs.toArray e)).ownsRow w.heap.size e 1 (.slice (some ⟨w.heap.size, 0, none⟩) n c) n cs := by
  subst hc
  refine ⟨by omega, .inr ⟨w.heap.size, c, cs.toArray, rfl, Nat.le_refl _, heap_alloc_new w _, Nat.le_refl _, ?_, ?_, ?_⟩⟩
  · unfold maxLen; omega
  · simpa using hl
  · simp [← hl]
/-- The pattern as it grows. -/
def PatI (win : Int) (k : Nat) (P : List Int) : Prop := P.length = k + 1 ∧ GoodP P win ∧ ∀ x ∈ P, x ≤ 6000 * k
theorem PatI.start (win : Int) (h : 0 ≤ win ∧ win ≤ 500) : PatI win 0 [0] := by
  refine ⟨rfl, ⟨by omega, fun j hj => ?_⟩, by simp⟩
  obtain rfl : j = 0 := by simpa using hj
  exact ⟨by simp, by simp, fun h0 => by omega⟩
theorem PatI.next {win : Int} {k : Nat} {P : List Int} (h : PatI win k P) (hw : win ≤ 500) (hk : k ≤ 10) {p : Int} (hp : 0 ≤ p ∧ p < 4000) {q : Int} (hq : P[k]? = some q) : PatI win (k + 1) (P ++ [q + 4 * win + 1 + p]) := by
  obtain ⟨h1, h2, h3⟩ := h
  have hw0 := h2.1
  have hqm := h3 q (List.mem_of_getElem? hq)
  obtain ⟨hk1, hqe⟩ := List.getElem?_eq_some_iff.1 hq
  have hq0 := (h2.2 k hk1).1
  rw [hqe] at hq0
  refine ⟨by simp [h1], ⟨h2.1, fun j hj => ?_⟩, fun x hx => ?_⟩
  · simp only [List.length_append, List.length_singleton] at hj
    by_cases hjk : j < P.length
    · have := h2.2 j hjk
      rw [List.getElem_append_left hjk]
      refine ⟨this.1, this.2.1, fun h0 => ?_⟩
      rw [List.getElem_append_left (by omega)]
      exact this.2.2 h0
    · obtain rfl : j = P.length := by omega
      have e1 : (P ++ [q + 4 * win + 1 + p])[P.length] = q + 4 * win + 1 + p := by simp
      rw [e1]
      refine ⟨by omega, by omega, fun h0 => ?_⟩
      have e2 : (P ++ [q + 4 * win + 1 + p])[P.length - 1]'(by simp; omega) = q := by
        rw [List.getElem_append_left (by omega)]
        have : P.length - 1 = k := by omega
        simp only [this]; exact hqe
      rw [e2]; omega
  · rcases List.mem_append.1 hx with hx | hx
    · have := h3 x hx; push_cast; omega
    · rw [List.mem_singleton.1 hx]; push_cast; omega

/-- The keys that have come, in order. -/
def SortI (base mb rb n N : Nat) (ks : List Int) (v : Value) (wr : World) : Prop :=
  ∃ done cnt L, RangeB wr mb rb n ks done cnt ∧ wr.ownsRow base 3 1 v L.length (L.map (.int .i64)) ∧ Inc L ∧ (∀ x, x ∈ L ↔ x ∈ done) ∧ L.length + cnt ≤ N ∧ (∀ x ∈ done, x ∈ ks)

set_option maxRecDepth 100000 in
set_option maxHeartbeats 8000000 in
theorem finds_true (gs ms bs : List Int) (vg vm vb : Value) (win0 sh0 ot0 : Int) (w : World) (hg : Ints w vg gs) (hm : Ints w vm ms) (hb : Ints w vb bs) (hgb : ∀ x ∈ gs, I64 x) (hmb : ∀ x ∈ ms, I64 x) (hbb : ∀ x ∈ bs, I64 x)
    (h1 : I64 win0) (h2 : I64 sh0) (h3 : I64 ot0) :
    Calls Try.prog 5 #[vg, .int .i64 win0, .int .i64 sh0, vm, vb, .int .i64 ot0] w fun x w' => x = .returned (.bool true) ∧ Ext w w' := by
  obtain ⟨ag, cg, rfl, HG⟩ := hg.form
  obtain ⟨am, cm, rfl, HM⟩ := hm.form
  obtain ⟨ab, cb, rfl, HB⟩ := hb.form
  have hgl := hg.len
  have hml := hm.len
  have hbl := hb.len
  have HGB := Lib.hid hgb
  have HMB := Lib.hid hmb
  have HBB := Lib.hid hbb
  clear hgb hmb hbb
  obtain ⟨wn, hwn⟩ : ∃ wn, pick win0 501 = wn := ⟨_, rfl⟩
  have hwb := pick_pos win0 501 (by omega)
  rw [hwn] at hwb
  have hpk := fun w1 => pick_any win0 501 w1 h1 (by unfold I64; omega)
  rw [hwn] at hpk
  obtain ⟨hwb1, hwb2⟩ := hwb
  have HPK := Lib.hid hpk
  clear hpk
  clear hg hm hb hwn h1
  unfold I64 at h2 h3
  go_enter Try.func5, Try.ntmps5
  by_cases a1 : gs.length < 1
  · have d1 : decide ((gs.length:Int) < 1) = true := decide_eq_true (by omega)
    go_wp2_with (go_at_call 9; refine (awake_true _).mono ?_; rintro x w4 ⟨rfl, hx4⟩; have HX4 := Lib.hid hx4; clear hx4)
    go_ret
    exact ⟨rfl, HX4.out⟩
  have d1 : decide ((gs.length:Int) < 1) = false := decide_eq_false (by omega)
  by_cases a2 : 11 < gs.length
  · have d2 : decide ((11:Int) < (gs.length:Int)) = true := decide_eq_true (by omega)
    go_wp2_with (go_at_call 9; refine (awake_true _).mono ?_; rintro x w4 ⟨rfl, hx4⟩; have HX4 := Lib.hid hx4; clear hx4)
    go_ret
    exact ⟨rfl, HX4.out⟩
  have d2 : decide ((11:Int) < (gs.length:Int)) = false := decide_eq_false (by omega)
  by_cases a3 : 20 < ms.length
  · have d3 : decide ((20:Int) < (ms.length:Int)) = true := decide_eq_true (by omega)
    go_wp2_with (go_at_call 9; refine (awake_true _).mono ?_; rintro x w4 ⟨rfl, hx4⟩; have HX4 := Lib.hid hx4; clear hx4)
    go_ret
    exact ⟨rfl, HX4.out⟩
  have d3 : decide ((20:Int) < (ms.length:Int)) = false := decide_eq_false (by omega)
  by_cases a4 : 10 < bs.length
  · have d4 : decide ((10:Int) < (bs.length:Int)) = true := decide_eq_true (by omega)
    go_wp2_with (go_at_call 9; refine (awake_true _).mono ?_; rintro x w4 ⟨rfl, hx4⟩; have HX4 := Lib.hid hx4; clear hx4)
    go_ret
    exact ⟨rfl, HX4.out⟩
  have d4 : decide ((10:Int) < (bs.length:Int)) = false := decide_eq_false (by omega)
  go_upto_region 5 with (go_at_call 19; refine (HPK.out _).mono ?_; rintro x w1 ⟨rfl, rfl⟩)
  clear d1 d2 d3 d4 HPK
  have tb : ∀ y : Int, -2000 ≤ y.tmod 2001 ∧ y.tmod 2001 ≤ 2000 := fun y => by
    have h1 := Int.tmod_lt_of_pos y (show (0:Int) < 2001 by omega)
    have h2 := Int.tmod_lt_of_pos (-y) (show (0:Int) < 2001 by omega)
    rw [Int.neg_tmod] at h2
    omega
  obtain ⟨t1, t2⟩ := tb sh0
  obtain ⟨t3, t4⟩ := tb ot0
  generalize sh0.tmod 2001 = sh at *
  generalize ot0.tmod 2001 = ot at *
  clear tb h2 h3
  go_wp2
  have o1 : (w.alloc (.cells #[.int .i64 0] 3)).ownsRow w.heap.size 3 1 (.slice (some ⟨w.heap.size, 0, none⟩) 1 1) 1 (([0] : List Int).map (Value.int .i64)) := owns_new w [.int .i64 0] 3 1 1 rfl (by omega) rfl
  have x1 : Ext w (w.alloc (.cells #[.int .i64 0] 3)) := ext_lit w _ _
  have P1 := PatI.start wn (by omega)
  have O1 := Lib.hid o1
  have X1 := Lib.hid x1
  have P0 := Lib.hid P1
  clear o1 x1 P1
  go_loopw [13, 14] (fun v t wr => ∃ k : Nat, k ≤ gs.length ∧ t = .int .i64 k ∧ ∃ P : List Int, Hid (PatI wn k P) ∧ Hid (wr.ownsRow w.heap.size 3 1 v (k + 1) (P.map (.int .i64))) ∧ Hid (Ext w wr)) (fun _ t _ => gs.length - (intOf t).toNat)
  case atStart => exact ⟨0, Nat.zero_le _, rfl, [0], P0.out, O1.out, X1.out⟩
  case round =>
    obtain ⟨k, hk, rfl, P, HP, HO, HX⟩ := hrel
    clear O1 X1 P0
    by_cases hlt : k < gs.length
    · have hpl := HP.out.1
      obtain ⟨q, hq⟩ : ∃ q, P[k]? = some q := ⟨P[k], List.getElem?_eq_getElem (by omega)⟩
      have hqb : 0 ≤ q ∧ q ≤ 100000 := by
        obtain ⟨h1, h2⟩ := List.getElem?_eq_some_iff.1 hq
        have := HP.out.2.1.2 k h1
        rw [h2] at this; omega
      obtain ⟨hq1, hq2⟩ := hqb
      obtain ⟨b1, o1, rfl, hc1⟩ := Ints.cells (xs := gs) HG.out (by omega)
      have q1 := HX.out.cellSome (hc1 k hlt)
      have k2 := q1
      have K2 := Lib.hid (hc1 k hlt)
      obtain ⟨y, hy⟩ : ∃ y, y = gs[k] := ⟨_, rfl⟩
      have hyb := HGB.out gs[k] (List.getElem_mem _)
      rw [← hy] at q1 k2 hyb K2
      obtain ⟨p, hp⟩ : ∃ p, pick y 4000 = p := ⟨_, rfl⟩
      have hpb := pick_pos y 4000 (by omega)
      have hpk := fun w1 => pick_any y 4000 w1 hyb (by unfold I64; omega)
      rw [hp] at hpb hpk
      have hin2 := HP.out.next (by omega) (by omega) hpb hq
      obtain ⟨hp1, hp2⟩ := hpb
      obtain ⟨a, n, c, hv, hn1, k1⟩ : ∃ g n c, u13 = .slice (some ⟨g, 0, none⟩) n c ∧ n = k + 1 ∧ wr.cell? ⟨g, k, none⟩ = some (.int .i64 q) := by
        have hi : Ints wr u13 P := Sl.of_owns HO.out
        rcases HO.out.2 with ⟨_, h0⟩ | ⟨g, cap, cur, rfl, _⟩
        · omega
        · refine ⟨g, k + 1, cap, rfl, rfl, ?_⟩
          obtain ⟨_, a, c, hv, _, hcc⟩ := hi
          obtain ⟨b, o, hab, hh⟩ := hcc (by simp; omega)
          injection hv with e1 e2 e3
          rw [hab] at e1
          injection e1 with e1; injection e1 with e1 e4
          subst e1; subst e4
          have := hh k (.int .i64 q) (by rw [List.getElem?_map, hq]; rfl)
          rwa [Nat.zero_add] at this
      subst hv hn1
      have K1 : Hid ((P.map (Value.int .i64))[k]? = some (.int .i64 q)) := by rw [List.getElem?_map, hq]; rfl
      have j1 : (0:Int) ≤ (k:Int) := by omega
      have j2 : (k:Int) < (gs.length:Int) := by omega
      have j3 : k < k + 1 := by omega
      have j4 : (k:Int) < (k:Int) + 1 := by omega
      have w1' : IntKind.i64.wrap (4 * wn) = 4 * wn := i64_eq _ (by omega)
      have w2' : IntKind.i64.wrap (q + 4 * wn) = q + 4 * wn := i64_eq _ (by omega)
      have w3' : IntKind.i64.wrap (q + 4 * wn + 1) = q + 4 * wn + 1 := i64_eq _ (by omega)
      have w4' : IntKind.i64.wrap (q + 4 * wn + 1 + p) = q + 4 * wn + 1 + p := i64_eq _ (by omega)
      have HPK := Lib.hid hpk
      have HIN := Lib.hid hin2
      clear hpk hin2
      clear hc1 hy hp hq hyb hpl
      go_wp2
      go_region_held3 (fun wx => wx.cell? ⟨a, k, none⟩ = some (.int .i64 q) ∧ wx.cell? ⟨b1, o1 + k, none⟩ = some (.int .i64 y))
        ((first | (refine ⟨?_, ?_⟩ <;> (simp only [World.cell?_drew]; with_reducible assumption)) | (with_reducible exact ⟨k1, k2⟩) | (go_keep)))
        ((first
          | (go_at_call 19; refine (HPK.out _).mono ?_; rintro x wz ⟨rfl, rfl⟩)
          | (refine step_app tInts rfl rfl rfl (HO.out.alloc _).drew rfl (cs := [.int .i64 (q + 4 * wn + 1 + p)]) rfl (by omega) (new_cells wr _ _) (by simp [Value.oneCell']) (by omega) (Nat.le_trans HX.out.size (by simp)) ?_
             intro v' w9 a1 a2 a3 a4
             have k1 := a4 a k _ rfl K1.out
             have k0 : Ext w w9 := (HX.out.tr (ext_lit _ _ _).drew).grown a2 (by simp; have := HX.out.size; omega) (fun k hk => (HO.out.lt k hk).1)
             have k2 := k0.cellSome K2.out
             have A1 := Lib.hid a1
             have A2 := Lib.hid k0
             clear a1 k0
             clear a2 a3 a4)))
      go_split_ands
      clear w1' w2' w3' w4'
      go_wp2
      go_roundw
      case rel => exact ⟨k + 1, by omega, by go_num, _, HIN.out, by rw [List.map_append]; exact A1.out, A2.out⟩
      case measure => simp [intOf]; omega
    · obtain rfl : k = gs.length := by omega
      have hpl := HP.out.1
      have hgp := HP.out.2.1
      have hi : Ints wr u13 P := Sl.of_owns HO.out
      obtain ⟨ap, cp, rfl, HI⟩ := hi.form
      have hpl1 : 2 ≤ P.length := by omega
      have hpl2 : P.length ≤ 12 := by omega
      have hpb := HP.out.2.2
      have HGP := Lib.hid hgp
      have HPB := Lib.hid hpb
      have HPL := Lib.hid hpl
      clear hgp hpb hpl
      clear HO HP hi
      obtain ⟨wB, rfl⟩ : ∃ W, W = wr := ⟨wr, rfl⟩
      go_wp2_with (
        with_reducible refine wpList_makeMapK rfl rfl ?_
        rintro mb w2 hm2 hx2 hl2
        have M0 := Lib.hid hm2
        have X2 := Lib.hid hx2
        clear hm2 hx2)
      go_loopw [16, 17] (fun q t wr => ∃ k : Nat, k ≤ P.length ∧ t = .int .i64 k ∧ ∃ tr n : Nat, tr ≤ k ∧ n ≤ k ∧ q = .int .i64 tr ∧ ∃ ks, Hid (MapB wr mb n ks) ∧ Hid (tr ≤ hitN ks wn sh (P.take k)) ∧ Hid (KeyBd ks) ∧ Hid (Ext wB wr)) (fun _ t _ => P.length - (intOf t).toNat)
      case atStart => exact ⟨0, Nat.zero_le _, rfl, 0, 0, Nat.zero_le _, Nat.zero_le _, rfl, [], M0.out, Nat.zero_le _, (fun x hx => by cases hx), X2.out⟩
      case round =>
        obtain ⟨k, hk, rfl, tr, n, htr, hn, rfl, ks, HK, HH, HD, HY⟩ := hrel
        clear M0 X2
        by_cases hlt : k < P.length
        · have hg9 := HGP.out.2 k hlt
          obtain ⟨b1, o1, rfl, hc1⟩ := Ints.cells (xs := P) (HI.out.ext HY.out) (by omega)
          have q1 := hc1 k hlt
          obtain ⟨p, hp⟩ : ∃ p, p = P[k] := ⟨_, rfl⟩
          rw [← hp] at q1 hg9
          obtain ⟨hp1, hp2, _⟩ := hg9
          have j1 : (0:Int) ≤ (k:Int) := by omega
          have j2 : (k:Int) < (P.length:Int) := by omega
          have HS := Lib.hid (hit_same hlt HH.out)
          have HM1 : Hid (∀ x, p + sh - wn ≤ x → x ≤ p + sh + wn → tr + 1 ≤ hitN (ks ++ [x]) wn sh (P.take (k + 1))) := fun x h1 h2 => hit_more hlt HH.out (by rw [← hp]; exact h1) (by rw [← hp]; exact h2)
          clear hc1 hp
          by_cases hz : 0 < ms.length
          · obtain ⟨b2, o2, rfl, hc2⟩ := Ints.cells (xs := ms) ((HM.out.ext HX.out).ext HY.out) hz
            have hz' : (0:Int) < (ms.length:Int) := by omega
            have i1 : k % ms.length < ms.length := Nat.mod_lt _ hz
            have c1 := hc2 (k % ms.length) i1
            obtain ⟨y, hy⟩ : ∃ y, y = ms[k % ms.length]'i1 := ⟨_, rfl⟩
            have hyb := HMB.out (ms[k % ms.length]'i1) (List.getElem_mem _)
            rw [← hy] at c1 hyb
            obtain ⟨pk, hpk0⟩ : ∃ pk, pick y (2 * wn + 1) = pk := ⟨_, rfl⟩
            have hpb := pick_pos y (2 * wn + 1) (by omega)
            have hpk := fun w1 => pick_any y (2 * wn + 1) w1 hyb (by unfold I64; omega)
            rw [hpk0] at hpb hpk
            obtain ⟨hpb1, hpb2⟩ := hpb
            unfold I64 at hyb
            have t3b := Int.tmod_lt_of_pos y (show (0:Int) < 3 by omega)
            have HPK := Lib.hid hpk
            clear hpk
            clear hc2 hy hpk0
            by_cases h3 : y.tmod 3 = 0
            · have d1 : (y.tmod 3 == 0) = true := by simp [h3]
              clear h3
              go_wp2_with (go_at_call 19; refine (HPK.out _).mono ?_; rintro x wz ⟨rfl, rfl⟩)
              go_roundw
              case rel => exact ⟨k + 1, by omega, by go_num, tr, n, by omega, by omega, rfl, ks, HK.out, HS.out, HD.out, HY.out⟩
              case measure => simp [intOf]; omega
            · have d1 : (y.tmod 3 == 0) = false := by simp [h3]
              clear h3
              go_wp2_with (first
                | (go_at_call 19; refine (HPK.out _).mono ?_; rintro x wz ⟨rfl, rfl⟩)
                | (with_reducible refine wpList_putB (k := p + sh + (pk - wn)) rfl rfl HK.out (by omega) ?_ ?_ ?_ ?_ ?_
                   · rfl
                   · rfl
                   · rfl
                   · unfold I64; omega
                   rintro w3 hm3 ho3
                   have hx3 := HY.out.then_only ho3 (fun k (hk : k = mb) => by omega)
                   have K3 := Lib.hid hm3
                   have Y3 := Lib.hid hx3
                   clear hm3 hx3
                   clear ho3))
              go_roundw
              case rel => exact ⟨k + 1, by omega, by go_num, tr + 1, n + 1, by omega, by omega, by go_num, _, K3.out, HM1.out _ (by omega) (by omega), HD.out.put (by omega), Y3.out⟩
              case measure => simp [intOf]; omega
          · have hz2 : decide ((0:Int) < (ms.length:Int)) = false := decide_eq_false (by omega)
            go_wp2_with (
                (with_reducible refine wpList_putB (k := p + sh) rfl rfl HK.out (by omega) ?_ ?_ ?_ ?_ ?_
                 · rfl
                 · rfl
                 · rfl
                 · unfold I64; omega
                 rintro w3 hm3 ho3
                 have hx3 := HY.out.then_only ho3 (fun k (hk : k = mb) => by omega)
                 have K3 := Lib.hid hm3
                 have Y3 := Lib.hid hx3
                 clear hm3 hx3
                 clear ho3))
            go_roundw
            case rel => exact ⟨k + 1, by omega, by go_num, tr + 1, n + 1, by omega, by omega, by go_num, _, K3.out, HM1.out _ (by omega) (by omega), HD.out.put (by omega), Y3.out⟩
            case measure => simp [intOf]; omega
        · obtain rfl : k = P.length := by omega
          have hh := HH.out
          rw [List.take_length] at hh
          have hn12 : n ≤ 12 := by omega
          have htr12 : tr ≤ 12 := by omega
          have H0 := Lib.hid hh
          clear hh
          clear HH
          obtain ⟨wC, rfl⟩ : ∃ W, W = wr := ⟨wr, rfl⟩
          go_wp2
          go_loopw [21] (fun t wr => ∃ k : Nat, k ≤ bs.length ∧ t = .int .i64 k ∧ ∃ ls n, n ≤ 12 + k ∧ Hid (MapB wr mb n ls) ∧ Hid (tr ≤ hitN ls wn sh P) ∧ Hid (KeyBd ls) ∧ Hid (Ext wB wr)) (fun t _ => bs.length - (intOf t).toNat)
          case atStart => exact ⟨0, Nat.zero_le _, rfl, ks, n, by omega, HK.out, H0.out, HD.out, HY.out⟩
          case round =>
            obtain ⟨k, hk, rfl, ls, n2, hn2, HK2, HH2, HD2, HY2⟩ := hrel
            clear HK HD HY H0
            by_cases hlt : k < bs.length
            · obtain ⟨b1, o1, rfl, hc1⟩ := Ints.cells (xs := bs) ((HB.out.ext HX.out).ext HY2.out) (by omega)
              have q1 := hc1 k hlt
              obtain ⟨y, hy⟩ : ∃ y, y = bs[k] := ⟨_, rfl⟩
              have hyb := HBB.out bs[k] (List.getElem_mem _)
              rw [← hy] at q1 hyb
              obtain ⟨pk, hpk0⟩ : ∃ pk, pick y 100000 = pk := ⟨_, rfl⟩
              have hpb := pick_pos y 100000 (by omega)
              have hpk := fun w1 => pick_any y 100000 w1 hyb (by unfold I64; omega)
              rw [hpk0] at hpb hpk
              obtain ⟨hpb1, hpb2⟩ := hpb
              have j1 : (0:Int) ≤ (k:Int) := by omega
              have j2 : (k:Int) < (bs.length:Int) := by omega
              have HPK := Lib.hid hpk
              clear hpk
              clear hc1 hy hpk0
              go_wp2_with (first
                | (go_at_call 19; refine (HPK.out _).mono ?_; rintro x wz ⟨rfl, rfl⟩)
                | (with_reducible refine wpList_putB (k := pk) rfl rfl HK2.out (by omega) ?_ ?_ ?_ ?_ ?_
                   · rfl
                   · rfl
                   · rfl
                   · unfold I64; omega
                   rintro w3 hm3 ho3
                   have hx3 := HY2.out.then_only ho3 (fun k (hk : k = mb) => by omega)
                   have K3 := Lib.hid hm3
                   have Y3 := Lib.hid hx3
                   clear hm3 hx3
                   clear ho3))
              go_roundw
              case rel => exact ⟨k + 1, by omega, by go_num, _, n2 + 1, by omega, K3.out, hit_put _ HH2.out, HD2.out.put (by omega), Y3.out⟩
              case measure => simp [intOf]; omega
            · have hn22 : n2 ≤ 22 := by omega
              have hk9 : k = bs.length := by omega
              have hk8 := Lib.hid hk9
              clear hk9
              go_wp2_with (
                with_reducible refine wpList_rangeB rfl rfl HK2.out ?_ ?_
                · rfl
                rintro rb w4 cnt hr4 hc4 hx4 hl4
                have hlr := hr4.lt
                have hnb := Nat.le_trans HY2.out.size hl4
                replace HY2 := Lib.hid (HY2.out.ext hx4)
                have R0 := Lib.hid hr4
                clear hr4
                clear hx4 HK2)
              go_frame
              have S0 : SortI w4.heap.size mb rb n2 22 ls (.slice none 0 0) w4 := ⟨[], cnt, [], R0.out, World.ownsRow_nil _ _ _ _, fun i j h hj => by simp at hj, fun x => Iff.rfl, by simp; omega, fun x hx => by cases hx⟩
              have S1 := Lib.hid S0
              clear S0
              clear R0
              go_loopw [22] (fun v wr => Hid (SortI w4.heap.size mb rb n2 22 ls v wr) ∧ Hid (Ext wB wr) ∧ w4.heap.size ≤ wr.heap.size) (fun _ wr => wr.rangeLeft mb rb)
              case atStart => exact ⟨S1.out, HY2.out, Nat.le_refl _⟩
              case round =>
                obtain ⟨HSI, HY4, hsz4⟩ := hrel
                clear S1 HY2
                obtain ⟨done, cnt4, L, hR, hO, hInc, hmem, hN, hsub⟩ := HSI.out
                clear HSI
                have hLl : L.length ≤ 22 := by omega
                obtain ⟨aL, cL, hv, _⟩ := (show Ints wr u22 L from Sl.of_owns hO).form
                subst hv
                have HRL := Lib.hid hR.left
                have HR := Lib.hid hR
                have HO := Lib.hid hO
                have HI2 := Lib.hid hInc
                have HME := Lib.hid hmem
                have HSB := Lib.hid hsub
                clear hR hO hInc hmem hsub
                go_wp2_with (
                  with_reducible refine wpList_nextB rfl rfl HR.out ?hit ?done ?more
                  case hit => rfl
                  case' done =>
                    intro hall
                    have HALL := Lib.hid hall
                    clear hall
                  case' more =>
                    intro x w5 cnt5 hx1 hx2 hr5 hlt5 ho5 hsz5 hen
                    have HR5 := Lib.hid hr5
                    have HX1 := Lib.hid hx1
                    have HX2 := Lib.hid hx2
                    have HO5 := Lib.hid ho5
                    clear hx1 hx2 hr5 ho5)
                · have hx5 : Ext wB w5 := HY4.out.then_only HO5.out (fun k (hk : k = rb) => by omega)
                  have hown5 := owns_only HO.out HO5.out (fun k hk (hkr : k = rb) => by have := (HO.out.lt k hk).1; omega)
                  have hnx : x ∉ L := fun h => HX2.out ((HME.out x).1 h)
                  have hi5 : Ints w5 (.slice aL L.length cL) L := Sl.of_owns hown5
                  have OW := Lib.hid hown5
                  have XX := Lib.hid hx5
                  have NX := Lib.hid hnx
                  clear hown5 hx5 hnx
                  clear HO HR HY4
                  have J0 : Hid (∀ i (h : i < L.length), L.length ≤ i → x < L[i]) := fun i h h2 => by omega
                  go_loop [24] (fun t => ∃ j : Nat, j ≤ L.length ∧ t = .int .i64 j ∧ Hid (∀ i (h : i < L.length), j ≤ i → x < L[i])) (fun t => (intOf t).toNat)
                  case atStart => exact ⟨L.length, Nat.le_refl _, rfl, J0.out⟩
                  case round =>
                    obtain ⟨j, hj, rfl, HJ⟩ := hrel
                    clear J0
                    by_cases hcont : ∃ i, j = i + 1 ∧ ∃ h : i < L.length, x < L[i]
                    · obtain ⟨i, rfl, hil, hxi⟩ := hcont
                      obtain ⟨b1, o1, rfl, hc1⟩ := Ints.cells (xs := L) hi5 (by omega)
                      have q1 := hc1 i hil
                      obtain ⟨y, hy⟩ : ∃ y, y = L[i] := ⟨_, rfl⟩
                      have HJ2 : Hid (∀ i' (h : i' < L.length), i ≤ i' → x < L[i']) := fun i' h h2 => by
                        rcases Nat.lt_or_ge i i' with h3 | h3
                        · exact HJ.out i' h h3
                        · obtain rfl : i' = i := by omega
                          exact hxi
                      rw [← hy] at q1 hxi
                      have hi0 : (0:Int) ≤ (i:Int) := by omega
                      have hi1 : (i:Int) < (L.length:Int) := by omega
                      clear hc1 hy
                      go_wp2
                      go_round
                      case rel => exact ⟨i, by omega, rfl, HJ2.out⟩
                      case measure => simp [intOf]
                    · have hpre : ∀ i (h : i < L.length), i < j → L[i] < x := fun i h hij => by
                        have h1 : ¬ x < L[j - 1]'(by omega) := fun h2 => hcont ⟨j - 1, by omega, by omega, h2⟩
                        have h2 : L[j - 1]'(by omega) ≠ x := fun e => NX.out (by rw [← e]; exact List.getElem_mem _)
                        rcases Nat.lt_or_ge i (j - 1) with h3 | h3
                        · have := HI2.out i (j - 1) h3 (by omega); omega
                        · obtain rfl : i = j - 1 := by omega
                          omega
                      have hins := inc_insert HI2.out hj hpre HJ.out
                      have hmi := fun y => mem_insert (L := L) j x y
                      have hlen : (L.take j ++ [x] ++ L.drop j).length = L.length + 1 := by simp; omega
                      obtain ⟨v1, v2, hs1, hs2, hv1, hv2⟩ := owns_cut OW.out j hj
                      have hd0 : j = 0 ∨ ∃ i, j = i + 1 ∧ ∃ y, L[i]? = some y ∧ y < x := by
                        rcases Nat.eq_zero_or_pos j with h0 | h0
                        · exact .inl h0
                        · exact .inr ⟨j - 1, by omega, _, List.getElem?_eq_getElem (by omega), hpre (j - 1) (by omega) (by omega)⟩
                      have HV1 : Hid (Src 1 w5 v1 j ((L.take j).map (.int .i64))) := by
                        have h := Sl.src hv1
                        rwa [List.length_map, List.length_take, Nat.min_eq_left hj] at h
                      have HV2 : Hid (Ints w5 v2 (L.drop j)) := hv2
                      have hjl : j ≤ 22 := by omega
                      have hdl : (L.drop j).length ≤ 22 := by rw [List.length_drop]; omega
                      have HIN := Lib.hid hins
                      have HMI := Lib.hid hmi
                      have HLE := Lib.hid hlen
                      clear hins hmi hlen
                      clear hcont hpre hv1 hv2
                      rcases hd0 with rfl | ⟨i, rfl, y, hy, hyx⟩
                      · rw [show ((0:Nat):Int) = 0 from rfl] at hs1 hs2
                        go_wp2_with (first
                          | (have hgd := HV1.out
                             at_builtin
                             refine wpList_app tInts rfl rfl (v := .slice none 0 0) rfl (World.ownsRow_nil _ w5.heap.size _ _) rfl HV1.out (ints_oneCell .i64 _) (by omega) (Nat.le_refl _) ?_
                             rintro u1 w6 a1 a2 a3
                             have E1 := Lib.hid (ext_grown (Below.refl _ _) (World.ownsRow_nil w5 w5.heap.size 3 1) a2)
                             have A1 := Lib.hid a1
                             clear HV1 hgd a1 a2 a3)
                          | (have hgd := A1.out
                             at_builtin
                             refine wpList_app tInts rfl rfl rfl (A1.out.alloc _) rfl (Src.lit w6 [.int .i64 x] 1 1 rfl 3 1) (by simp [Value.oneCell']) (by omega) (Nat.le_trans E1.out.size (by simp)) ?_
                             rintro u2 w7 a1 a2 a3
                             have E2 := Lib.hid (ext_grown (E1.out.tr (ext_lit _ _ _)) (A1.out.alloc _) a2)
                             have A2 := Lib.hid a1
                             clear A1 hgd a1 a2 a3)
                          | (at_builtin
                             refine wpList_app tInts rfl rfl rfl A2.out rfl (Sl.src (HV2.out.ext E2.out)) (ints_oneCell .i64 _) (by rw [List.length_map]; omega) E2.out.size ?_
                             rintro u3 w8 a1 a2 a3
                             have E3 := Lib.hid (ext_grown E2.out A2.out a2)
                             have A3 := Lib.hid a1
                             clear A2 a1 a2 a3))
                        go_roundw
                        case rel =>
                          have h9 := A3.out
                          rw [List.length_map] at h9
                          refine ⟨⟨x :: done, cnt5, L.take 0 ++ [x] ++ L.drop 0, HR5.out.ext E3.out, ?_, HIN.out, fun y => ?_, by rw [HLE.out]; omega, fun y hy => ?_⟩, XX.out.tr E3.out, by have := E3.out.size; omega⟩
                          · have e1 : (L.take 0 ++ [x] ++ L.drop 0).length = 0 + 0 + 1 + (L.drop 0).length := by rw [HLE.out, List.length_drop]; omega
                            have e2 : (L.take 0 ++ [x] ++ L.drop 0).map (Value.int .i64) = [] ++ (L.take 0).map (Value.int .i64) ++ [.int .i64 x] ++ (L.drop 0).map (Value.int .i64) := by simp
                            rw [e1, e2]
                            exact owns_weak h9 (by omega)
                          · rw [HMI.out y, HME.out y, List.mem_cons]
                          · rcases List.mem_cons.1 hy with rfl | hy
                            · exact HX1.out
                            · exact HSB.out y hy
                        case measure =>
                          rw [HRL.out, (HR5.out.ext E3.out).left]; exact hlt5
                      · obtain ⟨b1, o1, rfl, hc1⟩ := Ints.cells (xs := L) hi5 (by omega)
                        obtain ⟨hil, hye⟩ := List.getElem?_eq_some_iff.1 hy
                        have q1 := hc1 i hil
                        rw [hye] at q1
                        have hi0 : (0:Int) ≤ (i:Int) := by omega
                        have hi1 : (i:Int) < (L.length:Int) := by omega
                        have hyx' : ¬ x < y := by omega
                        rw [show ((i + 1 : Nat):Int) = (i:Int) + 1 from by omega] at hs1 hs2
                        clear hc1 hye hy
                        go_wp2_with (first
                          | (have hgd := HV1.out
                             at_builtin
                             refine wpList_app tInts rfl rfl (v := .slice none 0 0) rfl (World.ownsRow_nil _ w5.heap.size _ _) rfl HV1.out (ints_oneCell .i64 _) (by omega) (Nat.le_refl _) ?_
                             rintro u1 w6 a1 a2 a3
                             have E1 := Lib.hid (ext_grown (Below.refl _ _) (World.ownsRow_nil w5 w5.heap.size 3 1) a2)
                             have A1 := Lib.hid a1
                             clear HV1 hgd a1 a2 a3)
                          | (have hgd := A1.out
                             at_builtin
                             refine wpList_app tInts rfl rfl rfl (A1.out.alloc _) rfl (Src.lit w6 [.int .i64 x] 1 1 rfl 3 1) (by simp [Value.oneCell']) (by omega) (Nat.le_trans E1.out.size (by simp)) ?_
                             rintro u2 w7 a1 a2 a3
                             have E2 := Lib.hid (ext_grown (E1.out.tr (ext_lit _ _ _)) (A1.out.alloc _) a2)
                             have A2 := Lib.hid a1
                             clear A1 hgd a1 a2 a3)
                          | (at_builtin
                             refine wpList_app tInts rfl rfl rfl A2.out rfl (Sl.src (HV2.out.ext E2.out)) (ints_oneCell .i64 _) (by rw [List.length_map]; omega) E2.out.size ?_
                             rintro u3 w8 a1 a2 a3
                             have E3 := Lib.hid (ext_grown E2.out A2.out a2)
                             have A3 := Lib.hid a1
                             clear A2 a1 a2 a3))
                        go_roundw
                        case rel =>
                          have h9 := A3.out
                          rw [List.length_map] at h9
                          refine ⟨⟨x :: done, cnt5, L.take (i + 1) ++ [x] ++ L.drop (i + 1), HR5.out.ext E3.out, ?_, HIN.out, fun y => ?_, by rw [HLE.out]; omega, fun y hy => ?_⟩, XX.out.tr E3.out, by have := E3.out.size; omega⟩
                          · have e1 : (L.take (i + 1) ++ [x] ++ L.drop (i + 1)).length = 0 + (i + 1) + 1 + (L.drop (i + 1)).length := by rw [HLE.out, List.length_drop]; omega
                            have e2 : (L.take (i + 1) ++ [x] ++ L.drop (i + 1)).map (Value.int .i64) = [] ++ (L.take (i + 1)).map (Value.int .i64) ++ [.int .i64 x] ++ (L.drop (i + 1)).map (Value.int .i64) := by simp
                            rw [e1, e2]
                            exact owns_weak h9 (by omega)
                          · rw [HMI.out y, HME.out y, List.mem_cons]
                          · rcases List.mem_cons.1 hy with rfl | hy
                            · exact HX1.out
                            · exact HSB.out y hy
                        case measure =>
                          rw [HRL.out, (HR5.out.ext E3.out).left]; exact hlt5
                · have hset : ∀ x, x ∈ L ↔ x ∈ ls := fun x => ⟨fun h => HSB.out x ((HME.out x).1 h), fun h => (HME.out x).2 (HALL.out x h)⟩
                  have hLb : ∀ x ∈ L, -100000 ≤ x ∧ x ≤ 200000 := fun x hx => HD2.out x ((hset x).1 hx)
                  have hme : matchErr P L wn = 0 := by
                    unfold matchErr
                    rw [if_neg (by omega), if_neg (fun h => h HGP.out), if_neg (fun h => h (inc_seen HI2.out hLb))]
                  obtain ⟨bs1, bc, hbp, ⟨hb1, hb2⟩, hbc, hmost⟩ := best_pair P L wn
                  have hm1 := hmost ot (by omega) (by omega)
                  have hm2 := hmost sh (by omega) (by omega)
                  rw [cntL_fit _ _ _ _ (fun x hx => (hLb x hx).2)] at hm1 hm2
                  have htr2 : (tr:Int) ≤ bc := by
                    have h1 := HH2.out
                    have h2 := hitN_mono (fun x hx => (hset x).2 hx) wn sh P
                    omega
                  have hbc2 := cntL_bd (fitL P L wn bs1)
                  rw [← hbc, show (fitL P L wn bs1).length = P.length by simp [fitL]] at hbc2
                  obtain ⟨hbc3, hbc4⟩ := hbc2
                  have hpI : Ints wr (.slice ap P.length cp) P := HI.out.ext HY4.out
                  have hlI : Ints wr (.slice aL L.length cL) L := Sl.of_owns HO.out
                  have hmt := matchTop_any P L ap aL cp cL wn wr hpI hlI (fun x hx => by have := List.mem_iff_getElem.1 hx; obtain ⟨i, hi, rfl⟩ := this; have := (HGP.out.2 i hi); unfold I64; omega) (by unfold I64; omega) (fun x hx => by have := hLb x hx; unfold I64; omega)
                  have HMT : Hid (Calls Try.prog 11 #[.slice ap P.length cp, .int .i64 wn, .slice aL L.length cL] wr fun e w' => ∃ a c, e = .returned (.tuple #[.agg #[.int .i64 bs1, .int .i64 bc, .slice a P.length c], .int .i64 0]) ∧ Ints w' (.slice a P.length c) (fitL P L wn bs1) ∧ Ext wr w') := hmt.mono fun e w' ⟨h, hx⟩ => by
                    rcases h with ⟨er, h1, h2, _⟩ | ⟨_, v, rfl, hown⟩
                    · rw [hme] at h1; exact (h2 h1).elim
                    · rw [hbp] at hown ⊢
                      have hi := Sl.of_owns hown
                      have hlen : (fitL P L wn bs1).length = P.length := by simp [fitL]
                      obtain ⟨a, c, rfl, _⟩ := Ints.form hi
                      rw [hlen] at hi ⊢
                      exact ⟨a, c, rfl, hi, hx⟩
                  have HMB2 := Lib.hid HR.out.map
                  have HPI := Lib.hid hpI
                  have HLI := Lib.hid hlI
                  have HBC := Lib.hid hbc
                  have HM1 := Lib.hid hm1
                  have HLB := Lib.hid hLb
                  have HSET := Lib.hid hset
                  have HYY := Lib.hid HY4
                  clear hpI hlI hbc hm1 hLb hset HY4
                  clear hmt hm2 hmost hbp hme HO HR HME HSB HALL HH2 HD2 HI2
                  refine (HMT.out).mono ?_
                  rintro e w5 ⟨af, cf, rfl, hf5, hx5⟩
                  replace HPI := Lib.hid (HPI.out.ext hx5)
                  replace HLI := Lib.hid (HLI.out.ext hx5)
                  replace HMB2 := Lib.hid (HMB2.out.ext hx5)
                  replace HYY := Lib.hid (HYY.out.ext hx5)
                  have HF := Lib.hid hf5
                  clear hf5
                  clear hx5 HMT
                  go_upto_region 40 with (first
                    | (with_reducible refine wpList_allocA rfl rfl Try.zeroValue26 ?_
                       rintro fb w6 hb6 hx6 hl6
                       have FB := Lib.hid hb6
                       have G6 := Lib.hid hx6
                       clear hb6 hx6)
                    | (with_reducible refine wpList_storeK (cells := #[.int .i64 bs1, .int .i64 bc, .slice af P.length cf]) rfl rfl FB.out ?_ ?_ ?_ ?_ ?_ ?_
                       · rfl
                       · rfl
                       · kernel_rfl
                       · rfl
                       · simp [Value.oneCell']
                       rintro w7 hb7 ho7
                       have hx7 : Ext w5 w7 := G6.out.then_only ho7 (fun k (e : k = fb) => by omega)
                       replace HPI := Lib.hid (HPI.out.ext hx7)
                       replace HLI := Lib.hid (HLI.out.ext hx7)
                       replace HMB2 := Lib.hid (HMB2.out.ext hx7)
                       replace HYY := Lib.hid (HYY.out.ext hx7)
                       replace HF := Lib.hid (HF.out.ext hx7)
                       clear FB hx7 ho7
                       have FB := Lib.hid hb7
                       clear hb7))
                  have c7 := FB.out.cell
                  have d40 : decide (bc < (tr:Int)) = false := decide_eq_false (by omega)
                  go_wp2
                  have hL22 : L.length ≤ 22 := hLl
                  clear c7 d40
                  go_loopw [28, 29, 30] (fun q r t wr => ∃ k : Nat, k ≤ P.length ∧ t = .int .i64 k ∧ q = .int .i64 (hitN L wn ot (P.take k) : Int) ∧ r = .int .i64 (cntL ((fitL P L wn bs1).take k)) ∧ Hid (∃ n, wr = w7.drewN n)) (fun _ _ t _ => P.length - (intOf t).toNat)
                  case atStart => exact ⟨0, Nat.zero_le _, rfl, by simp [hitN], by simp [cntL], 0, rfl⟩
                  case round =>
                    obtain ⟨k1, hk1, rfl, rfl, rfl, HW⟩ := hrel
                    have HXR : Hid (Ext w7 wr) := by obtain ⟨n, hn⟩ := HW.out; rw [hn]; exact Ext.of_drewN _ _
                    have c8 := (FB.out.ext HXR.out).cell
                    have hhb := hitN_le L wn ot (P.take k1)
                    rw [List.length_take, Nat.min_eq_left hk1] at hhb
                    have hcb := cntL_bd ((fitL P L wn bs1).take k1)
                    rw [List.length_take, show (fitL P L wn bs1).length = P.length by simp [fitL], Nat.min_eq_left hk1] at hcb
                    obtain ⟨hcb1, hcb2⟩ := hcb
                    obtain ⟨hn1, hhn⟩ : ∃ h, h = hitN L wn ot (P.take k1) := ⟨_, rfl⟩
                    obtain ⟨cn1, hcn⟩ : ∃ c, c = cntL ((fitL P L wn bs1).take k1) := ⟨_, rfl⟩
                    rw [← hhn] at hhb ⊢
                    rw [← hcn] at hcb1 hcb2 ⊢
                    have HHN := Lib.hid hhn
                    have HCN := Lib.hid hcn
                    clear hhn hcn
                    by_cases hlt : k1 < P.length
                    · have hg9 := HGP.out.2 k1 hlt
                      obtain ⟨p, hp⟩ : ∃ p, p = P[k1] := ⟨_, rfl⟩
                      rw [← hp] at hg9
                      obtain ⟨hp1, hp2, _⟩ := hg9
                      have j1 : (0:Int) ≤ (k1:Int) := by omega
                      have j2 : (k1:Int) < (P.length:Int) := by omega
                      obtain ⟨b1, o1, rfl, hc1⟩ := Ints.cells (xs := P) (HPI.out.ext HXR.out) (by omega)
                      obtain ⟨b2, o2, rfl, hc2⟩ := Ints.cells (xs := fitL P L wn bs1) (HF.out.ext HXR.out) (by simp [fitL]; omega)
                      obtain ⟨x, hx⟩ : ∃ x, x = fnd L (p + bs1 - wn) (p + bs1 + wn) := ⟨_, rfl⟩
                      have hfx : (fitL P L wn bs1)[k1]? = some x := by simp [fitL, hlt, hx, hp]
                      obtain ⟨hfl, hfe⟩ := List.getElem?_eq_some_iff.1 hfx
                      have q1 := hc1 k1 hlt
                      have q2 := hc2 k1 hfl
                      rw [← hp] at q1
                      rw [hfe] at q2
                      have HC1 : Hid (cntL ((fitL P L wn bs1).take (k1 + 1)) = cn1 + if x = 1000000000 then 0 else 1) := by rw [List.take_succ_eq_append_getElem hfl, cntL_snoc, hfe, HCN.out]; exact Lib.hid rfl
                      have HH1 : Hid (hitN L wn ot (P.take (k1 + 1)) = hn1 + if (L.any fun y => inB y (p + ot - wn) (p + ot + wn)) then 1 else 0) := by rw [List.take_succ_eq_append_getElem hlt, hitN_snoc, ← hp, HHN.out]; exact Lib.hid rfl
                      have HXF : Hid (x ≠ 1000000000 → x ∈ L ∧ p + bs1 - wn ≤ x ∧ x ≤ p + bs1 + wn) := fun h => by rw [hx] at h ⊢; exact fnd_spec _ _ _ h
                      clear hc1 hc2 hp hx hfx hfl hfe
                      have z0 : Hid ((L.take 0).any (fun y => inB y (p + ot - wn) (p + ot + wn)) = false) := rfl
                      obtain ⟨wD, rfl⟩ : ∃ W, W = wr := ⟨wr, rfl⟩
                      go_wp2
                      go_loopw [31, 32] (fun q t wr => ∃ k : Nat, k ≤ L.length ∧ t = .int .i64 k ∧ q = .bool ((L.take k).any fun y => inB y (p + ot - wn) (p + ot + wn)) ∧ Hid (∃ n, wr = wD.drewN n)) (fun _ t _ => L.length - (intOf t).toNat)
                      case atStart => exact ⟨0, Nat.zero_le _, rfl, by rw [z0.out], 0, rfl⟩
                      case round =>
                        obtain ⟨k2, hk2, rfl, rfl, HW2⟩ := hrel
                        have HXD : Hid (Ext wD wr) := by obtain ⟨n, hn⟩ := HW2.out; rw [hn]; exact Ext.of_drewN _ _
                        clear z0
                        by_cases hlt2 : k2 < L.length
                        · obtain ⟨y, hy⟩ : ∃ y, y = L[k2] := ⟨_, rfl⟩
                          obtain ⟨b3, o3, rfl, hc3⟩ := Ints.cells (xs := L) ((HLI.out.ext HXR.out).ext HXD.out) (by omega)
                          have q3 := hc3 k2 hlt2
                          have hyb := HLB.out L[k2] (List.getElem_mem _)
                          rw [← hy] at q3 hyb
                          obtain ⟨hyb1, hyb2⟩ := hyb
                          have q4 := HXD.out.cellSome q1
                          obtain ⟨tb, htb⟩ : ∃ tb, tb = ((L.take k2).any fun y => inB y (p + ot - wn) (p + ot + wn)) := ⟨_, rfl⟩
                          have HS : Hid (((L.take (k2 + 1)).any fun y => inB y (p + ot - wn) (p + ot + wn)) = (tb || inB y (p + ot - wn) (p + ot + wn))) := by
                            show _ = _; rw [List.take_succ_eq_append_getElem hlt2, List.any_append, ← htb, hy]; simp
                          rw [← htb]
                          have i1 : (0:Int) ≤ (k2:Int) := by omega
                          have i2 : (k2:Int) < (L.length:Int) := by omega
                          have w1' : IntKind.i64.wrap (p + ot) = p + ot := i64_eq _ (by omega)
                          have w2' : IntKind.i64.wrap (p + ot - wn) = p + ot - wn := i64_eq _ (by omega)
                          have w3' : IntKind.i64.wrap (p + ot + wn) = p + ot + wn := i64_eq _ (by omega)
                          clear hc3 hy htb
                          cases tb
                          · by_cases e1 : p + ot - wn ≤ y
                            · have d1 : decide (p + ot - wn ≤ y) = true := decide_eq_true e1
                              by_cases e2 : y ≤ p + ot + wn
                              · have d2 : decide (y ≤ p + ot + wn) = true := decide_eq_true e2
                                go_wp2
                                go_quiet (fail)
                                go_wp2
                                go_roundw
                                case rel => exact ⟨k2 + 1, by omega, by go_num, by rw [HS.out]; simp [inB, *], by obtain ⟨n, hn⟩ := HW2.out; exact ⟨_, by rw [hn]; exact World.drewN_drewN ..⟩⟩
                                case measure => simp [intOf]; omega
                              · have d2 : decide (y ≤ p + ot + wn) = false := decide_eq_false e2
                                go_wp2
                                go_quiet (fail)
                                go_wp2
                                go_roundw
                                case rel => exact ⟨k2 + 1, by omega, by go_num, by rw [HS.out]; simp [inB, *], by obtain ⟨n, hn⟩ := HW2.out; exact ⟨_, by rw [hn]; exact World.drewN_drewN ..⟩⟩
                                case measure => simp [intOf]; omega
                            · have d1 : decide (p + ot - wn ≤ y) = false := decide_eq_false e1
                              go_wp2
                              go_quiet (fail)
                              go_wp2
                              go_roundw
                              case rel => exact ⟨k2 + 1, by omega, by go_num, by rw [HS.out]; simp [inB, *], by obtain ⟨n, hn⟩ := HW2.out; exact ⟨_, by rw [hn]; exact World.drewN_drewN ..⟩⟩
                              case measure => simp [intOf]; omega
                          · go_wp2
                            go_quiet (fail)
                            go_wp2
                            go_roundw
                            case rel => exact ⟨k2 + 1, by omega, by go_num, by rw [HS.out]; simp [inB, *], by obtain ⟨n, hn⟩ := HW2.out; exact ⟨_, by rw [hn]; exact World.drewN_drewN ..⟩⟩
                            case measure => simp [intOf]; omega
                        · obtain rfl : k2 = L.length := by omega
                          rw [List.take_length]
                          obtain ⟨tb, htb⟩ : ∃ tb, tb = (L.any fun y => inB y (p + ot - wn) (p + ot + wn)) := ⟨_, rfl⟩
                          have c9 := ((FB.out.ext HXR.out).ext HXD.out).cell
                          have q4 := HXD.out.cellSome q1
                          have q5 := HXD.out.cellSome q2
                          rw [← htb] at HH1 ⊢
                          have w1' : IntKind.i64.wrap (p + bs1) = p + bs1 := i64_eq _ (by omega)
                          have w2' : IntKind.i64.wrap (p + bs1 - wn) = p + bs1 - wn := i64_eq _ (by omega)
                          have w3' : IntKind.i64.wrap (p + bs1 + wn) = p + bs1 + wn := i64_eq _ (by omega)
                          clear htb
                          by_cases hxl : x = 1000000000
                          · subst hxl
                            cases tb
                            · go_wp2
                              go_roundw
                              case rel => exact ⟨k1 + 1, by omega, by go_num, by rw [HH1.out]; go_num, by rw [HC1.out]; go_num, by obtain ⟨n, hn⟩ := HW.out; obtain ⟨n2, hn2⟩ := HW2.out; exact ⟨_, by rw [hn2, hn]; exact World.drewN_drewN ..⟩⟩
                              case measure => simp [intOf]; omega
                            · go_wp2
                              go_roundw
                              case rel => exact ⟨k1 + 1, by omega, by go_num, by rw [HH1.out]; go_num, by rw [HC1.out]; go_num, by obtain ⟨n, hn⟩ := HW.out; obtain ⟨n2, hn2⟩ := HW2.out; exact ⟨_, by rw [hn2, hn]; exact World.drewN_drewN ..⟩⟩
                              case measure => simp [intOf]; omega
                          · have hxe : (x == 1000000000) = false := by simp [hxl]
                            obtain ⟨hxm, hx1, hx2⟩ := HXF.out hxl
                            have hlk := fun nq => (((HMB2.out.ext HXR.out).ext HXD.out).ext (Ext.of_drewN wr nq)).look ((HSET.out x).1 hxm)
                            have HC2 : Hid (cntL ((fitL P L wn bs1).take (k1 + 1)) = cn1 + 1) := by rw [HC1.out, if_neg hxl]; exact Lib.hid rfl
                            have d1 : decide (x < p + bs1 - wn) = false := decide_eq_false (by omega)
                            have d2 : decide (p + bs1 + wn < x) = false := decide_eq_false (by omega)
                            clear hxl hxm
                            cases tb
                            · go_wp2
                              go_quiet (fail)
                              go_wp2
                              go_roundw
                              case rel => exact ⟨k1 + 1, by omega, by go_num, by rw [HH1.out]; go_num, by rw [HC2.out], by obtain ⟨n, hn⟩ := HW.out; obtain ⟨n2, hn2⟩ := HW2.out; exact ⟨_, by rw [hn2, hn]; exact (congrArg (World.drewN · _) (World.drewN_drewN ..)).trans (World.drewN_drewN ..)⟩⟩
                              case measure => simp [intOf]; omega
                            · go_wp2
                              go_quiet (fail)
                              go_wp2
                              go_roundw
                              case rel => exact ⟨k1 + 1, by omega, by go_num, by rw [HH1.out]; go_num, by rw [HC2.out], by obtain ⟨n, hn⟩ := HW.out; obtain ⟨n2, hn2⟩ := HW2.out; exact ⟨_, by rw [hn2, hn]; exact (congrArg (World.drewN · _) (World.drewN_drewN ..)).trans (World.drewN_drewN ..)⟩⟩
                              case measure => simp [intOf]; omega
                    · obtain rfl : k1 = P.length := by omega
                      have hcn := HCN.out
                      have hhn := HHN.out
                      rw [List.take_of_length_le (by simp [fitL]), ← HBC.out] at hcn
                      rw [List.take_length] at hhn
                      have d1 : (cn1 == bc) = true := by simp [hcn]
                      have d2 : decide ((hn1:Int) ≤ bc) = true := decide_eq_true (by have := HM1.out; omega)
                      clear hcn hhn
                      go_wp2_with (go_at_call 9; refine (awake_true _).mono ?_; rintro x w12 ⟨rfl, hx12⟩; have HX12 := Lib.hid (((HX.out.tr HYY.out).tr HXR.out).tr hx12); clear hx12)
                      go_ret
                      exact ⟨rfl, HX12.out⟩
end Go.Proofs.Ytafnadaahnkcmaa
