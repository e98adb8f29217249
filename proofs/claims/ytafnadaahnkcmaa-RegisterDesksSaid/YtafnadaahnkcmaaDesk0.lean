/- slices.Clone at integers, (Copy).copied, (Desk).none. -/
import Derived.Test.YtafnadaahnkcmaaKit
import Derived.Test.YtafnadaahnkcmaaLists
import Derived.Deep.RegionWith
namespace Go.Proofs.Ytafnadaahnkcmaa
open Go.RowKit
set_option linter.unusedVariables false

theorem owns_empty (w : World) (e : TypeId) (c : Array Value) (hc : c.size = 0) : (w.alloc (.cells c e)).ownsRow w.heap.size e 1 (.slice (some ⟨w.heap.size, 0, none⟩) 0 0) 0 [] :=
  ⟨rfl, .inr ⟨w.heap.size, 0, c, rfl, Nat.le_refl _, heap_alloc_new w _, Nat.le_refl _, by unfold maxLen; omega, by simp [hc], by simp⟩⟩

set_option maxRecDepth 100000 in
set_option maxHeartbeats 1000000 in
theorem clone_any (xs : List Int) (va : Value) (w : World) (ha : Ints w va xs) (hb : xs.length ≤ 1000000) :
    Calls Try.prog 41 #[va] w fun e w' => ∃ v, e = .returned v ∧ Ext w w' ∧ w'.ownsRow w.heap.size 3 1 v xs.length (xs.map (.int .i64)) := by
  obtain ⟨a, c, rfl, Ha⟩ := ha.form
  clear ha
  have hnil := fun (w : World) (a : Option Addr) (n c : Nat) => Lib.run_eql_slice_nil (P := Try.prog) w 22 3 a n c 0 0 tInts.ht
  cases a with
  | none =>
    have hx : xs = [] := by
      rcases Nat.eq_zero_or_pos xs.length with h | h
      · exact List.eq_nil_of_length_eq_zero h
      · obtain ⟨b, o, h1, _⟩ := Ints.cells Ha.out h; cases h1
    subst hx
    go_enter Try.func41, Try.ntmps41
    go_wp2
    go_ret
    exact ⟨_, rfl, Below.refl _ _, World.ownsRow_nil _ _ _ _⟩
  | some ad =>
    go_enter Try.func41, Try.ntmps41
    go_wp2_with (
      at_builtin
      refine wpList_app tInts rfl rfl rfl (owns_empty w 3 _ rfl) rfl (Sl.src (Ints.ext Ha.out (ext_lit _ _ _))) (ints_oneCell .i64 _) (by rw [List.length_map]; omega) (by simp) ?_
      rintro v' w1 h1 h2 h3
      rw [List.length_map] at h1
      have hx := ext_grown (ext_lit w _ _) (owns_empty w 3 _ rfl) h2
      have H1 := Lib.hid h1
      have HX := Lib.hid hx
      clear h1 hx
      clear h2 h3)
    go_ret
    have h := H1.out
    rw [Nat.zero_add, List.nil_append] at h
    exact ⟨_, rfl, HX.out, h⟩

structure CopyD where
  good : Bool
  shift : Int
  errs : List Int
  moves : List Int
instance : Inhabited CopyD := ⟨⟨false, 0, [], []⟩⟩

/-- A copy, by value. -/
def cpV (good : Bool) (shift : Int) (ve vm : Value) : Value := .agg #[.bool good, .int .i64 shift, ve, vm]

theorem sl_one {v : Value} {w : World} {xs : List Int} (h : Ints w v xs) : v.oneCell' = true ∧ v.cells = #[v] := by
  obtain ⟨_, a, c, rfl, _⟩ := h; exact ⟨rfl, rfl⟩

theorem apart_of {w : World} {base base' : Nat} {e e' : TypeId} {z z' n n' : Nat} {v v' : Value} {xs xs' : List Value} {w' : World} (h : w'.ownsRow base e z v n xs) (h' : w.ownsRow base' e' z' v' n' xs') (hb : w.heap.size ≤ base) (hh : v.ownBlock = v'.ownBlock) : v.ownBlock = none := by
  cases hv : v.ownBlock with
  | none => rfl
  | some b =>
    have h1 := (h.lt b hv).1
    have h2 := (h'.lt b (hh ▸ hv)).2
    omega

set_option maxRecDepth 100000 in
set_option maxHeartbeats 2000000 in
theorem copied_any (good : Bool) (shift : Int) (ve vm : Value) (es ms : List Int) (w : World) (he : Ints w ve es) (hm : Ints w vm ms) (hel : es.length ≤ 1000000) (hml : ms.length ≤ 1000000) :
    Calls Try.prog 43 #[cpV good shift ve vm] w fun e w' => ∃ ve' vm', e = .returned (cpV good shift ve' vm') ∧ Ext w w' ∧ w'.ownsRow w.heap.size 3 1 ve' es.length (es.map (.int .i64)) ∧ w'.ownsRow w.heap.size 3 1 vm' ms.length (ms.map (.int .i64)) ∧
      (ve'.ownBlock = vm'.ownBlock → ve'.ownBlock = none) := by
  unfold cpV
  obtain ⟨ae, ce, rfl, He⟩ := he.form
  obtain ⟨am, cm, rfl, Hm⟩ := hm.form
  clear he hm
  go_enter Try.func43, Try.ntmps43
  go_upto_region 1 with (first
    | (with_reducible refine wpList_boxA (cs := #[.bool good, .int .i64 shift, .slice ae es.length ce, .slice am ms.length cm]) rfl rfl rfl ?_
       rintro lb w1 hb1 hx1 hl1
       have HB := Lib.hid hb1
       have HX := Lib.hid hx1
       clear hb1 hx1)
    | (with_reducible refine wpList_allocA rfl rfl Try.zeroValue59 ?_
       rintro rb w2 hb2 hx2 hl2
       have hl2' := Nat.le_trans HX.out.size hl2
       have hlr : lb < rb := Nat.lt_of_lt_of_le HB.out.lt hl2
       replace HB := Lib.hid (HB.out.ext hx2)
       replace HX := Lib.hid (HX.out.ext hx2)
       have RB := Lib.hid hb2
       clear hb2
       clear hx2))
  have c2 := HB.out.cell
  have f2 := HB.out.free
  have HE2 := Lib.hid (Ints.ext (He.out.ext HX.out) (Ext.of_drewN _ 1))
  have HM2 := Lib.hid (Ints.ext (Hm.out.ext HX.out) (Ext.of_drewN _ 1))
  have hxd := Ext.of_drewN w2 1
  have hrl := RB.out.lt
  replace HB := Lib.hid (HB.out.ext hxd)
  replace HX := Lib.hid (HX.out.ext hxd)
  replace RB := Lib.hid (RB.out.ext hxd)
  clear hxd
  go_region_with ((first
    | (go_at_call 41
       refine (clone_any es _ _ HE2.out hel).mono ?_
       rintro e w3 ⟨ve', rfl, hx3, ho3⟩
       obtain ⟨x1, y1, hv1, _⟩ := (show Ints w3 ve' es from Sl.of_owns ho3).form
       subst hv1
       try (have HNE : Hid ((Value.slice x1 es.length y1).ownBlock = (Value.slice x2 ms.length y2).ownBlock → (Value.slice x1 es.length y1).ownBlock = none) := fun hh => apart_of ho3 OM.out (Nat.le_refl _) hh)
       try (replace OM := Lib.hid (owns_ext OM.out hx3))
       have OE := Lib.hid (owns_weak (base' := w2.heap.size) ho3 (by first | exact Nat.le_refl _ | exact HSZ.out))
       try (replace HM2 := Lib.hid (HM2.out.ext hx3))
       have HSZ : Hid (w2.heap.size ≤ w3.heap.size) := by first | exact Nat.le_trans HSZ.out hx3.size | exact hx3.size
       replace HB := Lib.hid (HB.out.ext hx3)
       replace HX := Lib.hid (HX.out.ext hx3)
       replace RB := Lib.hid (RB.out.ext hx3)
       have c3 := HB.out.cell
       have f3 := HB.out.free
       have hs3 := hx3.size
       clear HE2 hx3 ho3)
    | (go_at_call 41
       refine (clone_any ms _ _ HM2.out hml).mono ?_
       rintro e w3 ⟨vm', rfl, hx3, ho3⟩
       obtain ⟨x2, y2, hv2, _⟩ := (show Ints w3 vm' ms from Sl.of_owns ho3).form
       subst hv2
       try (have HNE : Hid ((Value.slice x1 es.length y1).ownBlock = (Value.slice x2 ms.length y2).ownBlock → (Value.slice x1 es.length y1).ownBlock = none) := fun hh => hh.trans (apart_of ho3 OE.out (Nat.le_refl _) hh.symm))
       try (replace OE := Lib.hid (owns_ext OE.out hx3))
       have OM := Lib.hid (owns_weak (base' := w2.heap.size) ho3 (by first | exact Nat.le_refl _ | exact HSZ.out))
       try (replace HE2 := Lib.hid (HE2.out.ext hx3))
       have HSZ : Hid (w2.heap.size ≤ w3.heap.size) := by first | exact Nat.le_trans HSZ.out hx3.size | exact hx3.size
       replace HB := Lib.hid (HB.out.ext hx3)
       replace HX := Lib.hid (HX.out.ext hx3)
       replace RB := Lib.hid (RB.out.ext hx3)
       have c3 := HB.out.cell
       have f3 := HB.out.free
       have hs3 := hx3.size
       clear HM2 hx3 ho3)))
  all_goals (
    have hb4 : Blk ((w3.setCell ⟨lb, 2, none⟩ (Value.slice x1 es.length y1)).setCell ⟨lb, 3, none⟩ (Value.slice x2 ms.length y2)) lb #[.bool good, .int .i64 shift, .slice x1 es.length y1, .slice x2 ms.length y2] 59 :=
      blk_set (blk_set HB.out 2 (Value.slice x1 es.length y1)) 3 (Value.slice x2 ms.length y2)
    have ho4 : Only (fun k => k = lb) w3 ((w3.setCell ⟨lb, 2, none⟩ (Value.slice x1 es.length y1)).setCell ⟨lb, 3, none⟩ (Value.slice x2 ms.length y2)) := (Only.set (S := fun k => k = lb) w3 ⟨lb, 2, none⟩ _ rfl).tr (Only.set (S := fun k => k = lb) _ ⟨lb, 3, none⟩ _ rfl)
    generalize (w3.setCell ⟨lb, 2, none⟩ (Value.slice x1 es.length y1)).setCell ⟨lb, 3, none⟩ (Value.slice x2 ms.length y2) = w4 at *
    have hx4 : Ext w w4 := HX.out.then_only ho4 (fun k (hk : k = lb) => by omega)
    have oe4 := owns_only OE.out ho4 (fun k hk (hkl : k = lb) => by have h1 := (OE.out.lt k hk).1; omega)
    have om4 := owns_only OM.out ho4 (fun k hk (hkl : k = lb) => by have h1 := (OM.out.lt k hk).1; omega)
    have hsz := HSZ.out
    have hbn : ¬ rb = lb := by omega
    have rb4 := RB.out.only ho4 hbn
    have c4 := hb4.cell
    have OE4 := Lib.hid oe4
    have OM4 := Lib.hid om4
    have HX4 := Lib.hid hx4
    have RB5 := Lib.hid rb4
    have HB4 := Lib.hid hb4
    clear oe4 om4 hx4 rb4 hb4
    clear ho4 OE OM c2 f2 c3 f3 HX HB RB
    try clear hs3
    go_wp2_with (
      with_reducible refine wpList_storeK (cells := #[.bool good, .int .i64 shift, .slice x1 es.length y1, .slice x2 ms.length y2]) rfl rfl RB5.out ?_ ?_ ?_ ?_ ?_ ?_
      · rfl
      · rfl
      · kernel_rfl
      · rfl
      · simp [Value.oneCell']
      rintro w5 hb5 ho5
      have hx5 := HX4.out.then_only ho5 (fun k (hk : k = rb) => by omega)
      have oe5 := owns_only OE4.out ho5 (fun k hk (hkl : k = rb) => by have := (OE4.out.lt k hk).1; omega)
      have om5 := owns_only OM4.out ho5 (fun k hk (hkl : k = rb) => by have := (OM4.out.lt k hk).1; omega)
      have k0 := hb5.cell
      have OE6 := Lib.hid oe5
      have OM6 := Lib.hid om5
      have HX6 := Lib.hid hx5
      clear oe5 om5 hx5
      clear hb5 ho5)
    refine bodyPost_ret (v := .agg #[.bool good, .int .i64 shift, .slice x1 es.length y1, .slice x2 ms.length y2]) (by simp [results, Try.results43, go_sem, k0]) rfl ⟨_, _, rfl, HX6.out, owns_weak OE6.out (by omega), owns_weak OM6.out (by omega), HNE.out⟩)
end Go.Proofs.Ytafnadaahnkcmaa
