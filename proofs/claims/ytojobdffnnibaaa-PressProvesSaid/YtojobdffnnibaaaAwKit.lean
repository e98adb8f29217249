import Derived.Test.YtojobdffnnibaaaPBegin
import Derived.Test.YtojobdffnnibaaaPBreak
import Derived.Test.YtojobdffnnibaaaPFind
import Derived.Test.YtojobdffnnibaaaPProg
import Derived.Test.YtojobdffnnibaaaPPrint
/- The chapter's example, reckoned. -/
namespace Go.Proofs.Ytojobdffnnibaaa
open Go.RowKit
set_option linter.unusedVariables false

def axP : PressD := ⟨[false], 3, 0, 5⟩
def axQ : PressD := ⟨[true], 3, 0, 5⟩
def axG : GoalD := ⟨2, [true]⟩
def axL : List (Int × Int) := [(7, 0), (4, 0), (3, 0), (5, 0), (8, 0)]
def ax0 : StD := ⟨0, false, [⟨false, false, false, false, 0⟩], 0⟩
def ax1 : StD := ⟨2, false, [⟨false, true, true, true, 0⟩], 0⟩
def ax2 : StD := ⟨2, false, [⟨false, true, true, true, 8⟩], 8⟩
def ax3 : StD := ⟨0, false, [⟨false, false, false, false, 8⟩], 0⟩
theorem ax_begin : pErr axP = 0 := by decide +kernel
theorem ax_begin2 : beginD axP = ax0 := rfl
theorem ax_find : fiErr axP ax0 axG = 0 := by decide +kernel
theorem ax_find2 : findL axP ax0 axG = axL := by decide +kernel
theorem ax_prog : pgErr axP ax0 axL = 0 := by decide +kernel
theorem ax_prog2 : progR axP ax0 0 axL = (ax1, 5, 0) := by kernel_rfl
theorem ax_print : prErr axP ax1 8 = 0 := by decide +kernel
theorem ax_print2 : prD ax1 8 = ax2 := by kernel_rfl
theorem ax_print3 : prW axP ax1 8 = [⟨1, 0, 2⟩, ⟨2, 5, 7⟩] := by kernel_rfl
theorem ax_break : brErr axP ax2 0 = 0 := by decide +kernel
theorem ax_break2 : brD ax2 0 = ax3 := by kernel_rfl
theorem ax_again : fiErr axP ax3 axG = 0 := by decide +kernel
theorem ax_again2 : (findL axP ax3 axG).length = 5 := by decide +kernel
theorem ax_none : fiErr axQ ax3 axG = 4 := by decide +kernel

theorem truths1 {w : World} {b : Nat} {x : Bool} {t : TypeId} (h : Blk w b #[.bool x] t) : Truths w (.slice (some ⟨b, 0, none⟩) 1 1) [x] := by
  refine ⟨by simp, some ⟨b, 0, none⟩, 1, rfl, fun h => (by cases h), fun _ => ⟨b, 0, rfl, fun i u hu => ?_⟩⟩
  rw [Nat.zero_add, h.cell]
  rcases i with _ | i
  · simpa using hu
  · simp at hu
theorem AcIn.lit {w : World} {b : Nat} {l : List (Int × Int)} {t : TypeId} (h : Blk w b (acL l).toArray t) (hl : l.length ≤ 1000000) : AcIn w (.slice (some ⟨b, 0, none⟩) l.length l.length) l := by
  refine ⟨by omega, some ⟨b, 0, none⟩, l.length, rfl, fun _ => ⟨b, 0, rfl, fun i hi => ⟨?_, ?_⟩⟩⟩
  · have := acL_get l i 0 hi (by omega)
    rw [Nat.add_zero] at this
    rw [Nat.zero_add, h.cell, List.getElem?_toArray, this]; rfl
  · have := acL_get l i 1 hi (by omega)
    rw [Nat.zero_add, h.cell, List.getElem?_toArray, this]; rfl
theorem AcIn.cells {w : World} {a : Option Addr} {n c : Nat} {l : List (Int × Int)} (h : AcIn w (.slice a n c) l) (h0 : 0 < l.length) :
    ∃ b o, a = some ⟨b, o, none⟩ ∧ ∀ i (h : i < l.length), w.cell? ⟨b, o + i * 2, none⟩ = some (.int .i64 l[i].1) ∧ w.cell? ⟨b, o + i * 2 + 1, none⟩ = some (.int .i64 l[i].2) := by
  obtain ⟨_, a', c', h1, h2⟩ := h
  cases h1
  exact h2 h0

/-- What each call of the example does. -/
theorem ax_c1 {vj : Value} (W : World) (hj : Truths W vj [false]) : Calls Try.prog 20 #[.agg #[vj, .int .i64 3, .int .i64 0, .int .i64 5]] W fun e w' =>
    ∃ vu, e = .returned (.tuple #[.agg #[.int .i64 0, .bool false, vu, .int .i64 0], .int .i64 0]) ∧ UnIn w' vu ax0.units ∧ Ext W w' :=
  (begin_any axP vj W hj).mono fun e w' h => by
    obtain ⟨_, vu, he, hown, hx⟩ := h.resolve_left fun h => h.1 ax_begin
    exact ⟨vu, he, UnIn.of_owns (us := ax0.units) hown (by decide), hx⟩
theorem ax_c2 {vj vu vg : Value} (W : World) (hj : Truths W vj [false]) (hu : UnIn W vu ax0.units) (hg : Truths W vg [true]) : Calls Try.prog 25 #[.agg #[vj, .int .i64 3, .int .i64 0, .int .i64 5], .agg #[.int .i64 0, .bool false, vu, .int .i64 0], .agg #[.int .i64 2, vg]] W fun e w' =>
    ∃ a c, e = .returned (.tuple #[.slice a 5 c, .int .i64 0]) ∧ AcIn w' (.slice a 5 c) axL ∧ Ext W w' :=
  (find_any axP ax0 axG vj vu vg W hj hu hg (by decide)).mono fun e w' h => by
    obtain ⟨va, he, hown, hx⟩ := h
    rw [ax_find] at he
    rw [ax_find2] at hown
    obtain ⟨a, c, rfl⟩ := row_form hown
    exact ⟨a, c, he, AcIn.of_owns hown (by decide), hx⟩
theorem ax_c3 {vj vu vl : Value} (W : World) (hj : Truths W vj [false]) (hu : UnIn W vu ax0.units) (hl : AcIn W vl axL) : Calls Try.prog 33 #[.agg #[vj, .int .i64 3, .int .i64 0, .int .i64 5], .agg #[.int .i64 0, .bool false, vu, .int .i64 0], vl] W fun e w' =>
    ∃ vu, e = .returned (.tuple #[.agg #[.int .i64 2, .bool false, vu, .int .i64 0], .int .i64 5, .int .i64 0]) ∧ w'.ownsRow W.heap.size 50 5 vu 1 (uL ax1.units) ∧ Ext W w' :=
  (program_any axP ax0 axL vj vu vl W hj hu (by decide) hl (by unfold axL I64; decide)).mono fun e w' h => by
    obtain ⟨_, vu, he, hown, hx⟩ := h.resolve_left fun h => h.1 ax_prog
    rw [ax_prog2] at he hown
    exact ⟨vu, he, hown, hx⟩
theorem ax_c4 {vj vu : Value} (W : World) (hj : Truths W vj [false]) (hu : UnIn W vu ax1.units) : Calls Try.prog 13 #[.agg #[vj, .int .i64 3, .int .i64 0, .int .i64 5], .agg #[.int .i64 2, .bool false, vu, .int .i64 0], .int .i64 8] W fun e w' =>
    ∃ vu g c, e = .returned (.tuple #[.agg #[.int .i64 2, .bool false, vu, .int .i64 8], .slice (some ⟨g, 0, none⟩) 2 c, .int .i64 0]) ∧ UnIn w' vu ax2.units ∧
      (∀ j u, (spL [⟨1, 0, 2⟩, ⟨2, 5, 7⟩])[j]? = some u → w'.cell? ⟨g, j, none⟩ = some u) ∧ Ext W w' :=
  (print_any axP ax1 8 vj vu W hj hu (by decide) (by unfold I64; decide)).mono fun e w' h => by
    obtain ⟨_, vu, vw, he, hown, how, hx⟩ := h.resolve_left fun h => h.1 ax_print
    rw [ax_print2] at he hown
    rw [ax_print3] at how
    obtain ⟨g, c, rfl, hc⟩ := owns_pos how (by decide)
    exact ⟨vu, g, c, he, UnIn.of_owns (us := ax2.units) hown (by decide), hc, hx⟩
theorem ax_c5 {vj vu : Value} (W : World) (hj : Truths W vj [false]) (hu : UnIn W vu ax2.units) : Calls Try.prog 21 #[.agg #[vj, .int .i64 3, .int .i64 0, .int .i64 5], .agg #[.int .i64 2, .bool false, vu, .int .i64 8], .int .i64 0] W fun e w' =>
    ∃ vu, e = .returned (.tuple #[.agg #[.int .i64 0, .bool false, vu, .int .i64 0], .int .i64 0, .int .i64 0]) ∧ w'.ownsRow W.heap.size 50 5 vu 1 (uL ax3.units) ∧ Ext W w' :=
  (break_any axP ax2 0 vj vu W hj hu (by decide) (by unfold I64; decide)).mono fun e w' h => by
    obtain ⟨_, vu, he, hown, hx⟩ := h.resolve_left fun h => h.1 ax_break
    have e0 : brD ax2 (0:Int).toNat = ax3 := ax_break2
    rw [e0] at he hown
    exact ⟨vu, he, hown, hx⟩
theorem ax_c6 {vj vu vg : Value} (W : World) (hj : Truths W vj [false]) (hu : UnIn W vu ax3.units) (hg : Truths W vg [true]) : Calls Try.prog 25 #[.agg #[vj, .int .i64 3, .int .i64 0, .int .i64 5], .agg #[.int .i64 0, .bool false, vu, .int .i64 0], .agg #[.int .i64 2, vg]] W fun e w' =>
    ∃ a c, e = .returned (.tuple #[.slice a 5 c, .int .i64 0]) ∧ Ext W w' :=
  (find_any axP ax3 axG vj vu vg W hj hu hg (by decide)).mono fun e w' h => by
    obtain ⟨va, he, hown, hx⟩ := h
    rw [ax_again] at he
    obtain ⟨a, c, rfl⟩ := row_form hown
    rw [ax_again2] at he
    exact ⟨a, c, he, hx⟩
theorem ax_c7 {vj vu vg : Value} (W : World) (hj : Truths W vj [true]) (hu : UnIn W vu ax3.units) (hg : Truths W vg [true]) : Calls Try.prog 25 #[.agg #[vj, .int .i64 3, .int .i64 0, .int .i64 5], .agg #[.int .i64 0, .bool false, vu, .int .i64 0], .agg #[.int .i64 2, vg]] W fun e w' =>
    ∃ va, e = .returned (.tuple #[va, .int .i64 4]) ∧ Ext W w' :=
  (find_any axQ ax3 axG vj vu vg W hj hu hg (by decide)).mono fun e w' h => by
    obtain ⟨va, he, hown, hx⟩ := h
    rw [ax_none] at he
    exact ⟨va, he, hx⟩
end Go.Proofs.Ytojobdffnnibaaa

/- awake: the chapter's example comes out as it should. -/
namespace Go.Proofs.Ytojobdffnnibaaa
open Go.RowKit
set_option linter.unusedVariables false
set_option linter.unusedSimpArgs false

set_option maxRecDepth 100000 in
set_option maxHeartbeats 4000000 in
theorem awake_any (w : World) : Calls Try.prog 10 #[] w fun e w' => e = .returned (.bool true) ∧ Ext w w' := by
  go_enter Try.func10, Try.ntmps10
  -- the press
  go_upto_region 2 with (first
    | (with_reducible refine wpList_allocA (t := 32) rfl rfl Try.zeroValue32 ?_
       rintro xp w2 hx1 hx2 hx3
       have hnb := newB w #[.bool false] 4
       have jb2 := Blk.ext hnb.1 hx2
       have x2 := hnb.2.1.tr hx2
       have lx := Nat.le_trans hnb.2.1.size hx3
       have nj : w.heap.size ≠ xp := fun e => by have := Blk.lt hnb.1; omega
       clear hnb hx2 hx3
       have JB := Lib.hid jb2
       have PB := Lib.hid hx1
       have X := Lib.hid x2
       have LP := Lib.hid lx
       have NJ := Lib.hid nj
       clear jb2 hx1 x2 lx nj)
    | (with_reducible refine wpList_storeK (ty := 32) (cells := #[.slice (some ⟨w.heap.size, 0, none⟩) 1 1, .int .i64 3, .int .i64 0, .int .i64 5]) rfl rfl PB.out ?_ ?_ ?_ ?_ ?_ ?_
       · rfl
       · rfl
       · kernel_rfl
       · rfl
       · simp [Value.oneCell']
       rintro w3 hb3 ho3
       have jb2 := JB.out.only ho3 NJ.out
       have x2 := X.out.then_only ho3 (fun k (e : k = xp) => by rw [e]; exact LP.out)
       have cp := hb3.cell
       clear JB PB X ho3
       have JB := Lib.hid jb2
       have PB := Lib.hid hb3
       have X := Lib.hid x2
       clear jb2 hb3 x2))
  -- Begin
  go_upto_region 3 with (first
    | (go_at_call 20
       refine (ax_c1 _ (truths1 JB.out)).mono ?_
       rintro e w4 ⟨vu, rfl, hu, hx⟩
       obtain ⟨a, c, rfl, _⟩ := hu.form
       clear cp
       replace JB := Lib.hid (JB.out.ext hx)
       replace PB := Lib.hid (PB.out.ext hx)
       have x2 := X.out.tr hx
       clear X hx
       have X := Lib.hid x2
       have UB := Lib.hid hu
       clear x2 hu)
    | (with_reducible refine wpList_allocA (t := 36) rfl rfl Try.zeroValue36 ?_
       rintro xs w5 hx1 hx2 hx3
       have lz : w4.heap.size ≤ xs := hx3
       have ls : w.heap.size ≤ xs := Nat.le_trans X.out.size hx3
       clear hx3
       have SB := Lib.hid hx1
       have Z := Lib.hid hx2
       have LZ := Lib.hid lz
       have LS := Lib.hid ls
       clear hx1 hx2 lz ls)
    | (with_reducible refine wpList_storeK (ty := 36) (cells := #[.int .i64 0, .bool false, .slice a 1 c, .int .i64 0]) rfl rfl SB.out ?_ ?_ ?_ ?_ ?_ ?_
       · rfl
       · rfl
       · kernel_rfl
       · rfl
       · simp [Value.oneCell']
       rintro w6 hb6 ho6
       have hx := Z.out.then_only ho6 (fun k (e : k = xs) => by rw [e]; exact LZ.out)
       replace JB := Lib.hid (JB.out.ext hx)
       replace PB := Lib.hid (PB.out.ext hx)
       replace UB := Lib.hid (UB.out.ext hx)
       have x2 := X.out.tr hx
       clear Z ho6 SB X hx LZ
       have SB := Lib.hid hb6
       have X := Lib.hid x2
       clear hb6 x2))
  -- the goal
  go_upto_region 4 with (first
    | (with_reducible refine wpList_allocA (t := 69) rfl rfl Try.zeroValue69 ?_
       rintro xg w8 hx1 hx2 hx3
       have hnb := newB w6 #[.bool true] 4
       have tb2 := Blk.ext hnb.1 hx2
       have x2 := hnb.2.1.tr hx2
       have lz := Nat.le_trans hnb.2.1.size hx3
       have nt : w6.heap.size ≠ xg := fun e => by have := Blk.lt hnb.1; omega
       have ntj : w.heap.size ≠ w6.heap.size := fun e => by have := JB.out.lt; omega
       clear hnb hx2 hx3
       have TB := Lib.hid tb2
       have GB := Lib.hid hx1
       have Z := Lib.hid x2
       have LZ := Lib.hid lz
       have NT := Lib.hid nt
       have NTJ := Lib.hid ntj
       clear tb2 hx1 x2 lz nt ntj)
    | (with_reducible refine wpList_storeK (ty := 69) (cells := #[.int .i64 2, .slice (some ⟨w6.heap.size, 0, none⟩) 1 1]) rfl rfl GB.out ?_ ?_ ?_ ?_ ?_ ?_
       · rfl
       · rfl
       · kernel_rfl
       · rfl
       · simp [Value.oneCell']
       rintro w9 hb9 ho9
       have hx := Z.out.then_only ho9 (fun k (e : k = xg) => by rw [e]; exact LZ.out)
       have tb2 := TB.out.only ho9 NT.out
       replace JB := Lib.hid (JB.out.ext hx)
       replace PB := Lib.hid (PB.out.ext hx)
       replace UB := Lib.hid (UB.out.ext hx)
       replace SB := Lib.hid (SB.out.ext hx)
       have x2 := X.out.tr hx
       clear TB GB X Z ho9 hx
       have cp := PB.out.cell
       have cs := SB.out.cell
       have cg := hb9.cell
       have TB := Lib.hid tb2
       have GB := Lib.hid hb9
       have X := Lib.hid x2
       clear tb2 hb9 x2))
  -- Find
  go_upto_region 6 with (
    go_at_call 25
    refine (ax_c2 _ (truths1 JB.out) UB.out (truths1 TB.out)).mono ?_
    rintro e w10 ⟨af, cf, rfl, hf, hx⟩
    clear cp cs cg
    replace JB := Lib.hid (JB.out.ext hx)
    replace PB := Lib.hid (PB.out.ext hx)
    replace UB := Lib.hid (UB.out.ext hx)
    replace SB := Lib.hid (SB.out.ext hx)
    replace TB := Lib.hid (TB.out.ext hx)
    replace GB := Lib.hid (GB.out.ext hx)
    have x2 := X.out.tr hx
    clear X hx
    have X := Lib.hid x2
    have FB := Lib.hid hf
    clear x2 hf)
  have hnb := newB w10 #[.int .i64 7, .int .i64 0, .int .i64 4, .int .i64 0, .int .i64 3, .int .i64 0, .int .i64 5, .int .i64 0, .int .i64 8, .int .i64 0] 63
  have hlit : AcIn (w10.alloc (.cells #[.int .i64 7, .int .i64 0, .int .i64 4, .int .i64 0, .int .i64 3, .int .i64 0, .int .i64 5, .int .i64 0, .int .i64 8, .int .i64 0] 63)) (.slice (some ⟨w10.heap.size, 0, none⟩) 5 5) axL := AcIn.lit hnb.1 (by decide)
  have hxl := hnb.2.1
  clear hnb
  generalize w10.alloc (.cells #[.int .i64 7, .int .i64 0, .int .i64 4, .int .i64 0, .int .i64 3, .int .i64 0, .int .i64 5, .int .i64 0, .int .i64 8, .int .i64 0] 63) = w11 at *
  replace JB := Lib.hid (JB.out.ext hxl)
  replace PB := Lib.hid (PB.out.ext hxl)
  replace UB := Lib.hid (UB.out.ext hxl)
  replace SB := Lib.hid (SB.out.ext hxl)
  replace TB := Lib.hid (TB.out.ext hxl)
  replace GB := Lib.hid (GB.out.ext hxl)
  replace FB := Lib.hid (FB.out.ext hxl)
  have x2 := X.out.tr hxl
  obtain ⟨lb, hlb⟩ : ∃ n, w10.heap.size = n := ⟨_, rfl⟩
  rw [hlb] at hlit ⊢
  clear hxl X hlb
  have X := Lib.hid x2
  have LB := Lib.hid hlit
  clear x2 hlit
  go_upto_region 9 with (fail)
  go_loopw [8] (fun t8 wr => ∃ k : Nat, k ≤ 5 ∧ t8 = .int .i64 k ∧ Hid (Ext w11 wr)) (fun t8 _ => 5 - (intOf t8).toNat)
  case atStart => exact ⟨0, by omega, rfl, Below.refl _ _⟩
  case round =>
    obtain ⟨k, hk, rfl, HX⟩ := hrel
    by_cases hlt : k < 5
    · obtain ⟨b1, o1, rfl, hc⟩ := AcIn.cells (FB.out.ext HX.out) (by decide)
      obtain ⟨d0, d1⟩ := hc k hlt
      obtain ⟨b2, o2, hv2, hc2⟩ := AcIn.cells (LB.out.ext HX.out) (by decide)
      cases hv2
      obtain ⟨e0, e1⟩ := hc2 k hlt
      simp only [Nat.zero_add] at e0 e1
      obtain ⟨⟨ak, ax⟩, hu⟩ : ∃ u, axL[k]'hlt = u := ⟨_, rfl⟩
      rw [hu] at d0 d1 e0 e1
      dsimp only at d0 d1 e0 e1
      have i1 : (0:Int) ≤ (k:Int) := by omega
      have i2 : (k:Int) < 5 := by omega
      clear hu hc hc2
      go_upto_region 11 with (fail)
      go_quiet (fail)
      have xq := HX.out.tr (Ext.of_drewN wr nq)
      generalize wr.drewN nq = wq at *
      have XQ := Lib.hid xq
      clear xq
      go_wp2
      go_roundw
      case rel => exact ⟨k + 1, by omega, by go_num, XQ⟩
      case measure => first | (simp [intOf]; done) | (simp [intOf]; omega)
    · have i2 : decide ((k:Int) < 5) = false := decide_eq_false (by omega)
      have hx := HX.out
      replace JB := Lib.hid (JB.out.ext hx)
      replace PB := Lib.hid (PB.out.ext hx)
      replace UB := Lib.hid (UB.out.ext hx)
      replace SB := Lib.hid (SB.out.ext hx)
      replace TB := Lib.hid (TB.out.ext hx)
      replace GB := Lib.hid (GB.out.ext hx)
      replace FB := Lib.hid (FB.out.ext hx)
      have x2 := X.out.tr hx
      clear X HX hx LB
      have X := Lib.hid x2
      clear x2
      have cp := PB.out.cell
      have cs := SB.out.cell
      -- Program
      go_upto_region 14 with (first
        | (go_at_call 33
           refine (ax_c3 _ (truths1 JB.out) UB.out FB.out).mono ?_
           rintro e w12 ⟨vu, rfl, hown, hx⟩
           obtain ⟨a2, c2, rfl⟩ := row_form hown
           have hlo : ∀ b, (Value.slice a2 1 c2).ownBlock = some b → b ≠ xs := fun b hb e => by have h1 := (hown.lt b hb).1; have h2 := SB.out.lt; omega
           have jb2 := JB.out.ext hx
           have pb2 := PB.out.ext hx
           have sb2 := SB.out.ext hx
           have tb2 := TB.out.ext hx
           have gb2 := GB.out.ext hx
           have x2 := X.out.tr hx
           clear cp cs JB PB SB TB GB X UB FB hx
           have JB := Lib.hid jb2
           have PB := Lib.hid pb2
           have SB := Lib.hid sb2
           have TB := Lib.hid tb2
           have GB := Lib.hid gb2
           have X := Lib.hid x2
           have OW := Lib.hid hown
           have HLO := Lib.hid hlo
           clear jb2 pb2 sb2 tb2 gb2 x2 hown hlo)
        | (with_reducible refine wpList_storeK (ty := 36) (cells := #[.int .i64 2, .bool false, .slice a2 1 c2, .int .i64 0]) rfl rfl SB.out ?_ ?_ ?_ ?_ ?_ ?_
           · rfl
           · rfl
           · kernel_rfl
           · rfl
           · simp [Value.oneCell']
           rintro w13 hb ho
           have jb2 := JB.out.only ho (fun e => absurd (blk_ty JB.out (e ▸ SB.out)) (by decide))
           have pb2 := PB.out.only ho (fun e => absurd (blk_ty PB.out (e ▸ SB.out)) (by decide))
           have tb2 := TB.out.only ho (fun e => absurd (blk_ty TB.out (e ▸ SB.out)) (by decide))
           have gb2 := GB.out.only ho (fun e => absurd (blk_ty GB.out (e ▸ SB.out)) (by decide))
           have x2 := X.out.then_only ho (fun k (e : k = xs) => by rw [e]; exact LS.out)
           have how := owns_only OW.out ho (fun b hb e => HLO.out b hb e)
           have hun : UnIn w13 (.slice a2 1 c2) ax1.units := UnIn.of_owns (us := ax1.units) how (by decide)
           have cp := pb2.cell
           have cs := hb.cell
           clear JB PB TB GB X OW HLO SB ho how
           have JB := Lib.hid jb2
           have PB := Lib.hid pb2
           have TB := Lib.hid tb2
           have GB := Lib.hid gb2
           have X := Lib.hid x2
           have UB := Lib.hid hun
           have SB := Lib.hid hb
           clear jb2 pb2 tb2 gb2 x2 hun hb))
      -- Print
      go_upto_region 15 with (first
        | (go_at_call 13
           refine (ax_c4 _ (truths1 JB.out) UB.out).mono ?_
           rintro e w14 ⟨vu, gw, cw, rfl, hun, hsp, hx⟩
           obtain ⟨a3, c3, rfl, _⟩ := hun.form
           have f0 := hsp 0 _ rfl
           have f1 := hsp 1 _ rfl
           have f2 := hsp 2 _ rfl
           have f3 := hsp 3 _ rfl
           have f4 := hsp 4 _ rfl
           have f5 := hsp 5 _ rfl
           clear cp cs UB SB
           replace JB := Lib.hid (JB.out.ext hx)
           replace PB := Lib.hid (PB.out.ext hx)
           replace TB := Lib.hid (TB.out.ext hx)
           replace GB := Lib.hid (GB.out.ext hx)
           have x2 := X.out.tr hx
           clear X hx hsp
           have X := Lib.hid x2
           have UB := Lib.hid hun
           have F0 := Lib.hid f0
           have F1 := Lib.hid f1
           have F2 := Lib.hid f2
           have F3 := Lib.hid f3
           have F4 := Lib.hid f4
           have F5 := Lib.hid f5
           clear x2 hun f0 f1 f2 f3 f4 f5)
        | (with_reducible refine wpList_allocA (t := 36) rfl rfl Try.zeroValue36 ?_
           rintro xn w15 hx1 hx2 hx3
           have lz : w14.heap.size ≤ xn := hx3
           clear hx3
           have NB := Lib.hid hx1
           have Z := Lib.hid hx2
           have LZ2 := Lib.hid lz
           clear hx1 hx2 lz)
        | (with_reducible refine wpList_storeK (ty := 36) (cells := #[.int .i64 2, .bool false, .slice a3 1 c3, .int .i64 8]) rfl rfl NB.out ?_ ?_ ?_ ?_ ?_ ?_
           · rfl
           · rfl
           · kernel_rfl
           · rfl
           · simp [Value.oneCell']
           rintro w16 hb6 ho6
           have hx := Z.out.then_only ho6 (fun k (e : k = xn) => by rw [e]; exact LZ2.out)
           replace JB := Lib.hid (JB.out.ext hx)
           replace PB := Lib.hid (PB.out.ext hx)
           replace TB := Lib.hid (TB.out.ext hx)
           replace GB := Lib.hid (GB.out.ext hx)
           replace UB := Lib.hid (UB.out.ext hx)
           have x2 := X.out.tr hx
           have f0 := hx.cellSome F0.out
           have f1 := hx.cellSome F1.out
           have f2 := hx.cellSome F2.out
           have f3 := hx.cellSome F3.out
           have f4 := hx.cellSome F4.out
           have f5 := hx.cellSome F5.out
           have cp := PB.out.cell
           have cn := hb6.cell
           clear Z ho6 NB X hx LZ2 F0 F1 F2 F3 F4 F5
           have NB := Lib.hid hb6
           have X := Lib.hid x2
           clear hb6 x2))
      -- the waste; Break
      go_upto_region 18 with (first
        | (go_at_call 21
           refine (ax_c5 _ (truths1 JB.out) UB.out).mono ?_
           rintro e w17 ⟨vu, rfl, hown, hx⟩
           obtain ⟨a4, c4, rfl⟩ := row_form hown
           have hun : UnIn w17 (.slice a4 1 c4) ax3.units := UnIn.of_owns (us := ax3.units) hown (by decide)
           have hlo : ∀ b, (Value.slice a4 1 c4).ownBlock = some b → b ≠ w.heap.size := fun b hb e => by have h1 := (hown.lt b hb).1; have h2 := JB.out.lt; omega
           clear cp cn UB NB f0 f1 f2 f3 f4 f5
           replace JB := Lib.hid (JB.out.ext hx)
           replace PB := Lib.hid (PB.out.ext hx)
           replace TB := Lib.hid (TB.out.ext hx)
           replace GB := Lib.hid (GB.out.ext hx)
           have x2 := X.out.tr hx
           clear X hx
           have X := Lib.hid x2
           have UB := Lib.hid hun
           have HLO := Lib.hid hlo
           clear x2 hun hlo
           clear hown)
        | (with_reducible refine wpList_allocA (t := 36) rfl rfl Try.zeroValue36 ?_
           rintro xt w18 hx1 hx2 hx3
           have lz : w17.heap.size ≤ xt := hx3
           clear hx3
           have NB := Lib.hid hx1
           have Z := Lib.hid hx2
           have LZ2 := Lib.hid lz
           clear hx1 hx2 lz)
        | (with_reducible refine wpList_storeK (ty := 36) (cells := #[.int .i64 0, .bool false, .slice a4 1 c4, .int .i64 0]) rfl rfl NB.out ?_ ?_ ?_ ?_ ?_ ?_
           · rfl
           · rfl
           · kernel_rfl
           · rfl
           · simp [Value.oneCell']
           rintro w19 hb6 ho6
           have hx := Z.out.then_only ho6 (fun k (e : k = xt) => by rw [e]; exact LZ2.out)
           replace JB := Lib.hid (JB.out.ext hx)
           replace PB := Lib.hid (PB.out.ext hx)
           replace TB := Lib.hid (TB.out.ext hx)
           replace GB := Lib.hid (GB.out.ext hx)
           replace UB := Lib.hid (UB.out.ext hx)
           have x2 := X.out.tr hx
           have cp := PB.out.cell
           have cn := hb6.cell
           have cg := GB.out.cell
           clear Z ho6 NB X hx LZ2
           have NB := Lib.hid hb6
           have X := Lib.hid x2
           clear hb6 x2))
      -- Find again
      go_upto_region 19 with (
         go_at_call 25
         refine (ax_c6 _ (truths1 JB.out) UB.out (truths1 TB.out)).mono ?_
         rintro e w20 ⟨a5, c5, rfl, hx⟩
         clear cp cn cg
         replace JB := Lib.hid (JB.out.ext hx)
         replace PB := Lib.hid (PB.out.ext hx)
         replace TB := Lib.hid (TB.out.ext hx)
         replace GB := Lib.hid (GB.out.ext hx)
         replace UB := Lib.hid (UB.out.ext hx)
         replace NB := Lib.hid (NB.out.ext hx)
         have x2 := X.out.tr hx
         clear X hx
         have cp := PB.out.cell
         have X := Lib.hid x2
         clear x2)
      -- jammed
      go_upto_region 20 with (
         with_reducible refine wpList_setK (b := w.heap.size) (i := 0) (v := .bool true) rfl rfl JB.out ?_ ?_ ?_ ?_ ?_ ?_ ?_
         · rfl
         · rfl
         · simp
         · kernel_rfl
         · rfl
         · simp [Value.oneCell']
         rintro w21 hb ho
         have hb2 : Blk w21 w.heap.size #[.bool true] 4 := hb
         have pb2 := PB.out.only ho (fun e => NJ.out e.symm)
         have tb2 := TB.out.only ho (fun e => NTJ.out e.symm)
         have gb2 := GB.out.only ho (fun e => absurd (blk_ty GB.out (e ▸ JB.out)) (by decide))
         have nb2 := NB.out.only ho (fun e => absurd (blk_ty NB.out (e ▸ JB.out)) (by decide))
         have x2 := X.out.then_only ho (fun k (e : k = w.heap.size) => by rw [e]; exact Nat.le_refl _)
         have cp := pb2.cell
         have cn := nb2.cell
         have cg := gb2.cell
         have hun := UB.out.only ho (fun b hb e => HLO.out b hb e)
         clear JB PB TB GB NB X UB hb ho
         have JB := Lib.hid hb2
         have TB := Lib.hid tb2
         have X := Lib.hid x2
         have UB := Lib.hid hun
         clear hb2 tb2 x2 hun)
      go_wp2_with (
         go_at_call 25
         refine (ax_c7 _ (truths1 JB.out) UB.out (truths1 TB.out)).mono ?_
         rintro e w22 ⟨va, rfl, hx⟩
         have x2 := X.out.tr hx
         clear X hx
         have X := Lib.hid x2
         clear x2)
      go_ret
      exact ⟨rfl, X.out⟩
end Go.Proofs.Ytojobdffnnibaaa
