/- awake: the chapter's examples come out as they should. -/
import Derived.Test.YtekplfbfkfiabaaAwB
namespace Go.Proofs.Ytekplfbfkfiabaa
open Go.RowKit
set_option linter.unusedVariables false
set_option linter.unusedSimpArgs false
attribute [local go_sem] Oper.semAt_some

theorem StIn.lit {α : Type} {z : Nat} {f : α → List Value} (hz : ∀ x, (f x).length = z) {w : World} {b n : Nat} {us : List α} {t : TypeId} (h : Blk w b (us.flatMap f).toArray t) (hn : us.length = n) (hl : n ≤ 1000000) : StIn z f w (.slice (some ⟨b, 0, none⟩) n n) us := by
  refine ⟨by omega, some ⟨b, 0, none⟩, n, by rw [hn], (fun e => nomatch e), fun _ => ⟨b, 0, rfl, fun i hi j hj => ?_⟩⟩
  rw [Nat.zero_add, h.cell, List.getElem?_toArray, fl_get hz us i j hi hj]
theorem lit_ints (w : World) (cs : Array Value) (xs : List Int) (n : Nat) (hc : cs = iA xs) (hn : xs.length = n) (hl : n ≤ 1000000) : Ints (w.alloc (.cells cs 3)) (.slice (some ⟨w.heap.size, 0, none⟩) n n) xs := by
  subst hc
  exact Blk.ints (newB w _ _).1 hn hl

set_option maxRecDepth 100000 in
set_option maxHeartbeats 4000000 in
theorem awake_any (w : World) : Calls Try.prog 14 #[] w fun e w' => e = .returned (.bool true) ∧ Ext w w' := by
  go_enter Try.func14, Try.ntmps14
  go_upto_region 2 with (
    go_at_call 40
    refine (ax_c1 _ _ (StIn.lit (us := axA) accC_len (newB w _ _).1 rfl (by decide))).mono ?_
    rintro e w1 ⟨lb, m, rfl, hl1, hx1⟩
    have hx := (ext_lit w _ _).tr hx1
    have hl := LSt.mono hl1 (ext_lit w _ _).size
    clear hx1 hl1
    have L := Lib.hid hl
    have X := Lib.hid hx
    clear hl hx)
  go_upto_region 5 with (
    go_at_call 31
    refine (ax_c2 _ _ lb m L.out X.out.size).mono ?_
    rintro e w2 ⟨rfl, m2, hl2, hx2⟩
    have hx := hx2 _ X.out rfl
    clear L X hx2
    have L := Lib.hid hl2
    have X := Lib.hid hx
    clear hl2 hx)
  go_upto_region 6 with (
    go_at_call 28
    refine (ax_c3 _ _ lb m2 1 4 0 L.out ax_b1).mono ?_
    rintro e w3 ⟨rfl, hx3⟩
    replace L := Lib.hid (L.out.ext hx3)
    replace X := Lib.hid (X.out.ext hx3)
    clear hx3)
  go_upto_region 7 with (
    go_at_call 28
    refine (ax_c3 _ _ lb m2 1 5 100 L.out ax_b2).mono ?_
    rintro e w4 ⟨rfl, hx4⟩
    replace L := Lib.hid (L.out.ext hx4)
    replace X := Lib.hid (X.out.ext hx4)
    clear hx4)
  go_upto_region 8 with (
    go_at_call 28
    refine (ax_c3 _ _ lb m2 0 5 (-100) L.out ax_b3).mono ?_
    rintro e w5 ⟨rfl, hx5⟩
    replace L := Lib.hid (L.out.ext hx5)
    replace X := Lib.hid (X.out.ext hx5)
    clear hx5)
  go_upto_region 9 with (
    go_at_call 29
    have hl9 := L.out.ext (ext_lit w5 #[.int .i64 97] 3)
    have hx9 := X.out.tr (ext_lit w5 #[.int .i64 97] 3)
    refine (ax_c4 _ _ lb m2 _ hl9 hx9.size (lit_ints w5 _ [97] 1 rfl rfl (by decide)) (fun b hb => by
      have hb2 : b = w5.heap.size := by cases hb; rfl
      clear hb
      subst hb2
      have h1 := L.out.led.lt
      refine ⟨by omega, fun h2 => ?_, Blk.lt (newB w5 #[.int .i64 97] 3).1⟩
      have := (L.out.ents.lt _ h2).2
      omega)).mono ?_
    rintro e w6 ⟨v6, m6, rfl, hi6, hl6, hx6⟩
    have hx := hx6 _ hx9 rfl
    clear L X hx6 hl9 hx9
    obtain ⟨a6, c6, rfl, _⟩ := hi6.form
    have L := Lib.hid hl6
    have X := Lib.hid hx
    have I6 := Lib.hid hi6
    clear hl6 hx hi6)
  go_upto_region 10 with (
    go_at_call 31
    refine (ax_c5 _ _ lb m6 L.out X.out.size).mono ?_
    rintro e w7 ⟨rfl, hx7⟩
    replace L := Lib.hid (L.out.ext hx7)
    replace X := Lib.hid (X.out.ext hx7)
    replace I6 := Lib.hid (I6.out.ext hx7)
    clear hx7)
  go_upto_region 12 with (
    go_at_call 18
    refine (sameInts_any [-3] [-3] _ _ _ (I6.out.ext (ext_lit w7 _ _)) (lit_ints w7 _ [-3] 1 rfl rfl (by decide))).mono ?_
    rintro e w8 ⟨rfl, n8, hw8⟩
    have hx8 : Ext w7 w8 := by rw [hw8]; exact (ext_lit w7 _ _).tr (Ext.of_drewN _ _)
    replace X := Lib.hid (X.out.ext hx8)
    clear L I6 hw8 hx8)
  go_upto_region 13 with (
    go_at_call 16
    refine (ax_c6 _ _ 100 [1, 1, 1] [34, 33, 33] (lit_ints w8 _ _ 3 rfl rfl (by decide)) ax_s1 (by decide) (by decide) (by decide)).mono ?_
    rintro e w9 ⟨v9, rfl, hi9, hx9⟩
    have hx := (X.out.tr (ext_lit w8 _ _)).tr hx9
    obtain ⟨a9, c9, rfl, _⟩ := hi9.form
    clear X hx9
    have X := Lib.hid hx
    have I9 := Lib.hid hi9
    clear hx hi9)
  go_upto_region 14 with (
    go_at_call 16
    refine (ax_c6 _ _ 10 [1, 3, 0] [3, 7, 0] (lit_ints w9 _ _ 3 rfl rfl (by decide)) ax_s2 (by decide) (by decide) (by decide)).mono ?_
    rintro e w10 ⟨v10, rfl, hi10, hx10⟩
    have hxx := (ext_lit w9 _ _).tr hx10
    obtain ⟨a10, c10, rfl, _⟩ := hi10.form
    replace X := Lib.hid (X.out.ext hxx)
    replace I9 := Lib.hid (I9.out.ext hxx)
    clear hx10 hxx
    have I10 := Lib.hid hi10
    clear hi10)
  go_upto_region 15 with (
    go_at_call 19
    refine (ax_c7 _ _ (lit_ints w10 _ axL 5 rfl rfl (by decide))).mono ?_
    rintro e w11 ⟨v11, rfl, hi11, hx11⟩
    have hxx := (ext_lit w10 _ _).tr hx11
    obtain ⟨a11, c11, rfl, _⟩ := hi11.form
    replace X := Lib.hid (X.out.ext hxx)
    replace I9 := Lib.hid (I9.out.ext hxx)
    replace I10 := Lib.hid (I10.out.ext hxx)
    clear hx11 hxx
    have I11 := Lib.hid hi11
    clear hi11)
  go_upto_region 16 with (
    go_at_call 21
    refine (ax_c8 _ _ (lit_ints w11 _ axL 5 rfl rfl (by decide))).mono ?_
    rintro e w12 ⟨g, c, rfl, hc6, hc7, hc8, hx12⟩
    have hxx := (ext_lit w11 _ _).tr hx12
    replace X := Lib.hid (X.out.ext hxx)
    replace I9 := Lib.hid (I9.out.ext hxx)
    replace I10 := Lib.hid (I10.out.ext hxx)
    replace I11 := Lib.hid (I11.out.ext hxx)
    clear hx12 hxx
    have C6 := Lib.hid hc6
    have C7 := Lib.hid hc7
    have C8 := Lib.hid hc8
    clear hc6 hc7 hc8)
  go_wp2_with (first
    | (go_at_call 18
       have hi := I9.out
       refine (sameInts_any [34, 33, 33] [34, 33, 33] _ _ _ (hi.ext (ext_lit w12 _ _)) (lit_ints w12 _ _ 3 rfl rfl (by decide))).mono ?_
       rintro e w13 ⟨rfl, n13, hw13⟩
       have hx13 : Ext w12 w13 := by rw [hw13]; exact (ext_lit w12 _ _).tr (Ext.of_drewN _ _)
       have c6 := hx13.cellSome C6.out
       have c7 := hx13.cellSome C7.out
       have c8 := hx13.cellSome C8.out
       replace X := Lib.hid (X.out.ext hx13)
       replace I10 := Lib.hid (I10.out.ext hx13)
       replace I11 := Lib.hid (I11.out.ext hx13)
       clear hi I9 hw13 hx13 C6 C7 C8
       have C6 := Lib.hid c6
       have C7 := Lib.hid c7
       have C8 := Lib.hid c8
       clear c6 c7 c8)
    | (go_at_call 18
       have hi := I10.out
       refine (sameInts_any [3, 7, 0] [3, 7, 0] _ _ _ (hi.ext (ext_lit w13 _ _)) (lit_ints w13 _ _ 3 rfl rfl (by decide))).mono ?_
       rintro e w14 ⟨rfl, n14, hw14⟩
       have hx14 : Ext w13 w14 := by rw [hw14]; exact (ext_lit w13 _ _).tr (Ext.of_drewN _ _)
       have c6 := hx14.cellSome C6.out
       have c7 := hx14.cellSome C7.out
       have c8 := hx14.cellSome C8.out
       replace X := Lib.hid (X.out.ext hx14)
       replace I11 := Lib.hid (I11.out.ext hx14)
       clear hi I10 hw14 hx14 C6 C7 C8
       have C6 := Lib.hid c6
       have C7 := Lib.hid c7
       have C8 := Lib.hid c8
       clear c6 c7 c8)
    | (go_at_call 18
       have hi := I11.out
       refine (sameInts_any [0, 0, 0, 1, 1] [0, 0, 0, 1, 1] _ _ _ (hi.ext (ext_lit w14 _ _)) (lit_ints w14 _ _ 5 rfl rfl (by decide))).mono ?_
       rintro e w15 ⟨rfl, n15, hw15⟩
       have hx15 : Ext w14 w15 := by rw [hw15]; exact (ext_lit w14 _ _).tr (Ext.of_drewN _ _)
       have c6 := hx15.cellSome C6.out
       have c7 := hx15.cellSome C7.out
       have c8 := hx15.cellSome C8.out
       replace X := Lib.hid (X.out.ext hx15)
       clear hi I11 hw15 hx15 C6 C7 C8))
  go_ret
  exact ⟨rfl, X.out⟩
end Go.Proofs.Ytekplfbfkfiabaa
