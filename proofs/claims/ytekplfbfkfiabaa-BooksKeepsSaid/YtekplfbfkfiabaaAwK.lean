import Derived.Test.YtekplfbfkfiabaaClrC
import Derived.Test.YtekplfbfkfiabaaBkShow
import Derived.Test.YtekplfbfkfiabaaBkShare
import Derived.Test.YtekplfbfkfiabaaBkPlCo
/- The chapter's examples, reckoned; what each call of awake does. -/
namespace Go.Proofs.Ytekplfbfkfiabaa
open Go.RowKit
set_option linter.unusedVariables false

def axA : List AccD := [⟨1, false⟩, ⟨1, true⟩]
def ax0 : LedD := newD 9 axA
def axE : EntD := ⟨0, 1, 100, 5⟩
def ax1 : LedD := postD ax0 axE
def axL : List Int := [-5, 3, 2, -4, 4]
def axP : List PayD := [⟨0, 1, 3⟩, ⟨0, 2, 2⟩, ⟨3, 4, 4⟩]
theorem ax_check : checkE axA = 0 := by decide +kernel
theorem ax_ok0 : LedOk ax0 := LedOk.new (by decide) ax_check
theorem ax_post : postErr ax0 axE = 0 := by decide +kernel
theorem ax_ok1 : LedOk ax1 := ax_ok0.post ax_post
theorem ax_b1 : balV ax1 1 4 = 0 ∧ balErr ax1 1 4 = 0 := by decide +kernel
theorem ax_b2 : balV ax1 1 5 = 100 ∧ balErr ax1 1 5 = 0 := by decide +kernel
theorem ax_b3 : balV ax1 0 5 = -100 ∧ balErr ax1 0 5 = 0 := by decide +kernel
theorem ax_close : closeErr ax1 6 [97] = 0 := by decide +kernel
theorem ax_close2 : (closeF 6 ax1 [] (closeP ax1 [97])).2.1 = [-3] := by decide +kernel
def ax2 : LedD := { (closeF 6 ax1 [] (closeP ax1 [97])).1 with closed := 6 }
theorem ax_ok2 : LedOk ax2 := (closeF_ok 6 _ ax1 [] ax_ok1).1.closed (by decide)
theorem ax_post2 : postErr ax2 ⟨0, 1, 100, 6⟩ = 12 := by decide +kernel
theorem ax_s1 : shareE 100 [1, 1, 1] = 0 ∧ shareV 100 [1, 1, 1] = [34, 33, 33] := by decide +kernel
theorem ax_s2 : shareE 10 [1, 3, 0] = 0 ∧ shareV 10 [1, 3, 0] = [3, 7, 0] := by decide +kernel
theorem ax_g : groupsE axL = 0 := by decide +kernel
theorem ax_g2 : groupsP axL = some [0, 0, 0, 1, 1] := by decide +kernel
theorem ax_c : clearP axL [0, 0, 0, 1, 1] = some axP := by decide +kernel
theorem ax_i64 : ∀ u ∈ axL, I64 u := by decide +kernel

/-- Numbers that are written out. -/
theorem ints_lit {w : World} {b : Nat} {xs : List Int} {t : TypeId} {n : Nat} (h : Blk w b (iA xs) t) (hn : xs.length = n) (hl : n ≤ 1000000) : Ints w (.slice (some ⟨b, 0, none⟩) n n) xs := h.ints hn hl

theorem LSt.mono {w : World} {B B2 lb : Nat} {d : LedD} {m : LMem} (h : LSt w B lb d m) (hb : B2 ≤ B) : LSt w B2 lb d m := ⟨Nat.le_trans hb h.blt, h.led, h.acc, h.row, owns_weak h.ents hb, h.nab, h.nva, h.nve⟩
theorem ax_c1 (W : World) (va : Value) (ha : AccIn W va axA) : Calls Try.prog 40 #[.int .u64 9, va] W fun e w' =>
    ∃ lb m, e = .returned (.tuple #[.pointer (some ⟨lb, 0, none⟩), .int .i64 0]) ∧ LSt w' W.heap.size lb ax0 m ∧ Ext W w' :=
  (new_any 9 axA va W ha).mono fun e w' h => by
    rcases h with ⟨h1, _⟩ | ⟨_, lb, m, h2, h3, _, _, _, h4⟩
    · exact absurd ax_check h1
    · exact ⟨lb, m, h2, h3, h4⟩
theorem ax_c2 (W : World) (B lb : Nat) (m : LMem) (h : LSt W B lb ax0 m) (hB : B ≤ W.heap.size) : Calls Try.prog 31 #[.pointer (some ⟨lb, 0, none⟩), .agg #[.int .i64 0, .int .i64 1, .int .i64 100, .int .i64 5]] W fun e w' =>
    e = .returned (.int .i64 0) ∧ ∃ m', LSt w' B lb ax1 m' ∧ ∀ w0, Ext w0 W → B = w0.heap.size → Ext w0 w' :=
  (post_any B lb ax0 m axE W h ax_ok0 hB (by unfold EntD.fits; decide)).mono fun e w' hp => by
    obtain ⟨h1, v', h2, h3, h4⟩ := hp.good ax_post
    exact ⟨h1, _, h2, fun w0 hx hb => hx.then_only h4 (fun q hq => by
      rcases hq with hq | hq
      · rw [hq, ← hb]; exact h.blt
      · rw [← hb]; exact (h.ents.lt q hq).1)⟩
theorem ax_c3 (W : World) (B lb : Nat) (m : LMem) (i day v : Int) (h : LSt W B lb ax1 m) (hv : balV ax1 i day = v ∧ balErr ax1 i day = 0) : Calls Try.prog 28 #[.pointer (some ⟨lb, 0, none⟩), .int .i64 i, .int .i64 day] W fun e w' =>
    e = .returned (.tuple #[.int .i64 v, .int .i64 0]) ∧ Ext W w' :=
  (Balance_any B lb ax1 m i day W h ax_ok1).mono fun e w' hp => ⟨by rw [hp.1, hv.1, hv.2], hp.2⟩
theorem ax_c4 (W : World) (B lb : Nat) (m : LMem) (vc : Value) (h : LSt W B lb ax1 m) (hB : B ≤ W.heap.size) (hc : Ints W vc [97]) (nvc : ∀ b, vc.ownBlock = some b → b ≠ lb ∧ m.ve.ownBlock ≠ some b ∧ b < W.heap.size) : Calls Try.prog 29 #[.pointer (some ⟨lb, 0, none⟩), .int .i64 6, vc] W fun e w' =>
    ∃ v m', e = .returned (.tuple #[v, .int .i64 0]) ∧ Ints w' v [-3] ∧ LSt w' B lb ax2 m' ∧ ∀ w0, Ext w0 W → B = w0.heap.size → Ext w0 w' :=
  (close_any B lb ax1 m 6 [97] vc W h ax_ok1 hB hc (by decide) (by decide) nvc).mono fun e w' hp => by
    obtain ⟨v, m', h1, h2, _, _, _, h3⟩ := hp
    rw [ax_close] at h1 h2
    rcases h2 with ⟨h2, _⟩ | ⟨_, h4, h5⟩
    · exact absurd rfl h2
    · rw [ax_close2] at h4
      exact ⟨v, m', h1, Sl.of_owns h4, h5, fun w0 hx hb => hx.then_only h3 (fun q hq => by
        rcases hq with hq | hq
        · rw [hq, ← hb]; exact h.blt
        · rw [← hb]; exact (h.ents.lt q hq).1)⟩
theorem ax_c5 (W : World) (B lb : Nat) (m : LMem) (h : LSt W B lb ax2 m) (hB : B ≤ W.heap.size) : Calls Try.prog 31 #[.pointer (some ⟨lb, 0, none⟩), .agg #[.int .i64 0, .int .i64 1, .int .i64 100, .int .i64 6]] W fun e w' =>
    e = .returned (.int .i64 12) ∧ Ext W w' :=
  (post_any B lb ax2 m ⟨0, 1, 100, 6⟩ W h ax_ok2 hB (by unfold EntD.fits; decide)).mono fun e w' hp => by
    obtain ⟨h1, h2⟩ := hp.bad (by rw [ax_post2]; decide)
    exact ⟨by rw [h1, ax_post2], h2⟩
theorem ax_c6 (W : World) (vw : Value) (t : Int) (ws os : List Int) (hw : Ints W vw ws) (hs : shareE t ws = 0 ∧ shareV t ws = os) (hu : ∀ u ∈ ws, I64 u) (ht : I64 t) (hl : ws.length < 20) : Calls Try.prog 16 #[.int .i64 t, vw] W fun e w' =>
    ∃ v, e = .returned (.tuple #[v, .int .i64 0]) ∧ Ints w' v os ∧ Ext W w' :=
  (share_any t ws vw W hw ht hu (by omega) (fun _ => hl)).mono fun e w' ⟨v, h1, h2, h3⟩ => ⟨v, by rw [h1, hs.1], by rw [← hs.2]; exact h3, h2⟩
theorem ax_c7 (W : World) (vl : Value) (hl : Ints W vl axL) : Calls Try.prog 19 #[vl] W fun e w' =>
    ∃ v, e = .returned (.tuple #[v, .int .i64 0]) ∧ Ints w' v [0, 0, 0, 1, 1] ∧ Ext W w' :=
  (groups_any axL vl W hl ax_i64 (by decide) (by decide) (fun _ => by rw [ax_g2]; rfl)).mono fun e w' ⟨v, h1, h2, h3⟩ => by
    rw [ax_g] at h1 h3
    rcases h3 with ⟨h3, _⟩ | ⟨_, g, o, h4, h5, h6, h7, h8⟩
    · exact absurd rfl h3
    · rw [ax_g2] at h6; cases h6
      exact ⟨v, h1, by rw [h4]; exact h8.ints rfl (by decide), h2⟩
theorem ax_c8 (W : World) (vl : Value) (hl : Ints W vl axL) : Calls Try.prog 21 #[vl] W fun e w' =>
    ∃ g c, e = .returned (.tuple #[.slice (some ⟨g, 0, none⟩) 3 c, .int .i64 0]) ∧ w'.cell? ⟨g, 6, none⟩ = some (.int .i64 3) ∧ w'.cell? ⟨g, 7, none⟩ = some (.int .i64 4) ∧ w'.cell? ⟨g, 8, none⟩ = some (.int .i64 4) ∧ Ext W w' :=
  (clear_any axL vl W hl ax_i64 (by decide) (by decide) (fun _ => ⟨_, _, ax_g2, ax_c⟩)).mono fun e w' ⟨v, h1, h2, h3⟩ => by
    rw [ax_g] at h1 h3
    rcases h3 with ⟨h3, _⟩ | ⟨_, G, out, h4, h5, _, h6⟩
    · exact absurd rfl h3
    · rw [ax_g2] at h4; cases h4
      rw [ax_c] at h5; cases h5
      obtain ⟨g, c, rfl⟩ := row_pos h6 (by decide)
      have hc := h6.cells rfl
      refine ⟨g, c, h1, ?_, ?_, ?_, h2⟩
      · have := hc 6 (.int .i64 3) rfl; rwa [addr0] at this
      · have := hc 7 (.int .i64 4) rfl; rwa [addr0] at this
      · have := hc 8 (.int .i64 4) rfl; rwa [addr0] at this
end Go.Proofs.Ytekplfbfkfiabaa

/- awake: the chapter's examples come out as they should. -/
namespace Go.Proofs.Ytekplfbfkfiabaa
open Go.RowKit
set_option linter.unusedVariables false
set_option linter.unusedSimpArgs false
attribute [local go_sem] Oper.semAt_some

theorem StIn.lit {α : Type} {z : Nat} {f : α → List Value} (hz : ∀ x, (f x).length = z) {w : World} {b n : Nat} {us : List α} {t : TypeId} (h : Blk w b (us.flatMap f).toArray t) (hn : us.length = n) (hl : n ≤ 1000000) : StIn z f w (.slice (some ⟨b, 0, none⟩) n n) us := by
  refine ⟨by omega, some ⟨b, 0, none⟩, n, by rw [hn], (fun e => nomatch e), fun _ => ⟨b, 0, rfl, fun i hi j hj => ?_⟩⟩
  rw [Nat.zero_add, h.cell, List.getElem?_toArray, fl_get hz us i j hi hj]
theorem lit_ints (w : World) (cs : Array Value) (xs : List Int) (n : Nat) (hc : cs = iA xs) (hn : xs.length = n) (hl : n ≤ 1000000) : Ints (w.alloc (.cells cs 3)) (.slice (some ⟨w.heap.size, 0, none⟩) n n) xs := by
  subst hc
  exact Blk.ints (newB w _ _).1 hn hl

set_option maxRecDepth 100000 in
set_option maxHeartbeats 4000000 in
theorem awake_any (w : World) : Calls Try.prog 14 #[] w fun e w' => e = .returned (.bool true) ∧ Ext w w' := by
  go_enter Try.func14, Try.ntmps14
  go_upto_region 2 with (
    go_at_call 40
    refine (ax_c1 _ _ (StIn.lit (us := axA) accC_len (newB w _ _).1 rfl (by decide))).mono ?_
    rintro e w1 ⟨lb, m, rfl, hl1, hx1⟩
    have hx := (ext_lit w _ _).tr hx1
    have hl := LSt.mono hl1 (ext_lit w _ _).size
    clear hx1 hl1
    have L := Lib.hid hl
    have X := Lib.hid hx
    clear hl hx)
  go_upto_region 5 with (
    go_at_call 31
    refine (ax_c2 _ _ lb m L.out X.out.size).mono ?_
    rintro e w2 ⟨rfl, m2, hl2, hx2⟩
    have hx := hx2 _ X.out rfl
    clear L X hx2
    have L := Lib.hid hl2
    have X := Lib.hid hx
    clear hl2 hx)
  go_upto_region 6 with (
    go_at_call 28
    refine (ax_c3 _ _ lb m2 1 4 0 L.out ax_b1).mono ?_
    rintro e w3 ⟨rfl, hx3⟩
    replace L := Lib.hid (L.out.ext hx3)
    replace X := Lib.hid (X.out.ext hx3)
    clear hx3)
  go_upto_region 7 with (
    go_at_call 28
    refine (ax_c3 _ _ lb m2 1 5 100 L.out ax_b2).mono ?_
    rintro e w4 ⟨rfl, hx4⟩
    replace L := Lib.hid (L.out.ext hx4)
    replace X := Lib.hid (X.out.ext hx4)
    clear hx4)
  go_upto_region 8 with (
    go_at_call 28
    refine (ax_c3 _ _ lb m2 0 5 (-100) L.out ax_b3).mono ?_
    rintro e w5 ⟨rfl, hx5⟩
    replace L := Lib.hid (L.out.ext hx5)
    replace X := Lib.hid (X.out.ext hx5)
    clear hx5)
  go_upto_region 9 with (
    go_at_call 29
    have hl9 := L.out.ext (ext_lit w5 #[.int .i64 97] 3)
    have hx9 := X.out.tr (ext_lit w5 #[.int .i64 97] 3)
    refine (ax_c4 _ _ lb m2 _ hl9 hx9.size (lit_ints w5 _ [97] 1 rfl rfl (by decide)) (fun b hb => by
      have hb2 : b = w5.heap.size := by cases hb; rfl
      clear hb
      subst hb2
      have h1 := L.out.led.lt
      refine ⟨by omega, fun h2 => ?_, Blk.lt (newB w5 #[.int .i64 97] 3).1⟩
      have := (L.out.ents.lt _ h2).2
      omega)).mono ?_
    rintro e w6 ⟨v6, m6, rfl, hi6, hl6, hx6⟩
    have hx := hx6 _ hx9 rfl
    clear L X hx6 hl9 hx9
    obtain ⟨a6, c6, rfl, _⟩ := hi6.form
    have L := Lib.hid hl6
    have X := Lib.hid hx
    have I6 := Lib.hid hi6
    clear hl6 hx hi6)
  go_upto_region 10 with (
    go_at_call 31
    refine (ax_c5 _ _ lb m6 L.out X.out.size).mono ?_
    rintro e w7 ⟨rfl, hx7⟩
    replace L := Lib.hid (L.out.ext hx7)
    replace X := Lib.hid (X.out.ext hx7)
    replace I6 := Lib.hid (I6.out.ext hx7)
    clear hx7)
  go_upto_region 12 with (
    go_at_call 18
    refine (sameInts_any [-3] [-3] _ _ _ (I6.out.ext (ext_lit w7 _ _)) (lit_ints w7 _ [-3] 1 rfl rfl (by decide))).mono ?_
    rintro e w8 ⟨rfl, n8, hw8⟩
    have hx8 : Ext w7 w8 := by rw [hw8]; exact (ext_lit w7 _ _).tr (Ext.of_drewN _ _)
    replace X := Lib.hid (X.out.ext hx8)
    clear L I6 hw8 hx8)
  go_upto_region 13 with (
    go_at_call 16
    refine (ax_c6 _ _ 100 [1, 1, 1] [34, 33, 33] (lit_ints w8 _ _ 3 rfl rfl (by decide)) ax_s1 (by decide) (by decide) (by decide)).mono ?_
    rintro e w9 ⟨v9, rfl, hi9, hx9⟩
    have hx := (X.out.tr (ext_lit w8 _ _)).tr hx9
    obtain ⟨a9, c9, rfl, _⟩ := hi9.form
    clear X hx9
    have X := Lib.hid hx
    have I9 := Lib.hid hi9
    clear hx hi9)
  go_upto_region 14 with (
    go_at_call 16
    refine (ax_c6 _ _ 10 [1, 3, 0] [3, 7, 0] (lit_ints w9 _ _ 3 rfl rfl (by decide)) ax_s2 (by decide) (by decide) (by decide)).mono ?_
    rintro e w10 ⟨v10, rfl, hi10, hx10⟩
    have hxx := (ext_lit w9 _ _).tr hx10
    obtain ⟨a10, c10, rfl, _⟩ := hi10.form
    replace X := Lib.hid (X.out.ext hxx)
    replace I9 := Lib.hid (I9.out.ext hxx)
    clear hx10 hxx
    have I10 := Lib.hid hi10
    clear hi10)
  go_upto_region 15 with (
    go_at_call 19
    refine (ax_c7 _ _ (lit_ints w10 _ axL 5 rfl rfl (by decide))).mono ?_
    rintro e w11 ⟨v11, rfl, hi11, hx11⟩
    have hxx := (ext_lit w10 _ _).tr hx11
    obtain ⟨a11, c11, rfl, _⟩ := hi11.form
    replace X := Lib.hid (X.out.ext hxx)
    replace I9 := Lib.hid (I9.out.ext hxx)
    replace I10 := Lib.hid (I10.out.ext hxx)
    clear hx11 hxx
    have I11 := Lib.hid hi11
    clear hi11)
  go_upto_region 16 with (
    go_at_call 21
    refine (ax_c8 _ _ (lit_ints w11 _ axL 5 rfl rfl (by decide))).mono ?_
    rintro e w12 ⟨g, c, rfl, hc6, hc7, hc8, hx12⟩
    have hxx := (ext_lit w11 _ _).tr hx12
    replace X := Lib.hid (X.out.ext hxx)
    replace I9 := Lib.hid (I9.out.ext hxx)
    replace I10 := Lib.hid (I10.out.ext hxx)
    replace I11 := Lib.hid (I11.out.ext hxx)
    clear hx12 hxx
    have C6 := Lib.hid hc6
    have C7 := Lib.hid hc7
    have C8 := Lib.hid hc8
    clear hc6 hc7 hc8)
  go_wp2_with (first
    | (go_at_call 18
       have hi := I9.out
       refine (sameInts_any [34, 33, 33] [34, 33, 33] _ _ _ (hi.ext (ext_lit w12 _ _)) (lit_ints w12 _ _ 3 rfl rfl (by decide))).mono ?_
       rintro e w13 ⟨rfl, n13, hw13⟩
       have hx13 : Ext w12 w13 := by rw [hw13]; exact (ext_lit w12 _ _).tr (Ext.of_drewN _ _)
       have c6 := hx13.cellSome C6.out
       have c7 := hx13.cellSome C7.out
       have c8 := hx13.cellSome C8.out
       replace X := Lib.hid (X.out.ext hx13)
       replace I10 := Lib.hid (I10.out.ext hx13)
       replace I11 := Lib.hid (I11.out.ext hx13)
       clear hi I9 hw13 hx13 C6 C7 C8
       have C6 := Lib.hid c6
       have C7 := Lib.hid c7
       have C8 := Lib.hid c8
       clear c6 c7 c8)
    | (go_at_call 18
       have hi := I10.out
       refine (sameInts_any [3, 7, 0] [3, 7, 0] _ _ _ (hi.ext (ext_lit w13 _ _)) (lit_ints w13 _ _ 3 rfl rfl (by decide))).mono ?_
       rintro e w14 ⟨rfl, n14, hw14⟩
       have hx14 : Ext w13 w14 := by rw [hw14]; exact (ext_lit w13 _ _).tr (Ext.of_drewN _ _)
       have c6 := hx14.cellSome C6.out
       have c7 := hx14.cellSome C7.out
       have c8 := hx14.cellSome C8.out
       replace X := Lib.hid (X.out.ext hx14)
       replace I11 := Lib.hid (I11.out.ext hx14)
       clear hi I10 hw14 hx14 C6 C7 C8
       have C6 := Lib.hid c6
       have C7 := Lib.hid c7
       have C8 := Lib.hid c8
       clear c6 c7 c8)
    | (go_at_call 18
       have hi := I11.out
       refine (sameInts_any [0, 0, 0, 1, 1] [0, 0, 0, 1, 1] _ _ _ (hi.ext (ext_lit w14 _ _)) (lit_ints w14 _ _ 5 rfl rfl (by decide))).mono ?_
       rintro e w15 ⟨rfl, n15, hw15⟩
       have hx15 : Ext w14 w15 := by rw [hw15]; exact (ext_lit w14 _ _).tr (Ext.of_drewN _ _)
       have c6 := hx15.cellSome C6.out
       have c7 := hx15.cellSome C7.out
       have c8 := hx15.cellSome C8.out
       replace X := Lib.hid (X.out.ext hx15)
       clear hi I11 hw15 hx15 C6 C7 C8))
  go_ret
  exact ⟨rfl, X.out⟩
end Go.Proofs.Ytekplfbfkfiabaa
