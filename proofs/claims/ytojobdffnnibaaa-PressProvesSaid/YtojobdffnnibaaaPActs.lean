/- The actions that are allowed, with the presses to which they lead: the iterator's contract. -/
import Derived.Test.YtojobdffnnibaaaPSit
namespace Go.Proofs.Ytojobdffnnibaaa
open Go.RowKit Go.Shelf
set_option linter.unusedVariables false
set_option linter.unusedSimpArgs false
attribute [local go_sem] Oper.semAt_some

/-- What is handed over: the action, and where the press lies to which it leads. -/
structure YA where
  kind : Int
  unit : Nat
  mb : Nat
  ub : Nat
  c : Nat
  nx : StD
def YA.args (x : YA) : Array Value := #[.agg #[.int .i64 x.kind, .int .i64 x.unit], .pointer (some ⟨x.mb, 0, none⟩)]
/-- It lives, and the action leads there. -/
def LiveY (B pb : Nat) (p : PressD) (t : StD) (vj : Value) (x : YA) (w : World) : Prop :=
  MOw B w x.mb pb x.ub x.c p x.nx vj ∧ actErr p t x.kind x.unit = 0 ∧ x.nx = actD p t x.kind x.unit ∧ (1 ≤ x.kind ∧ x.kind ≤ 12) ∧ x.unit < t.units.length
/-- The press that is gone through lives. -/
def LiveM (B mb pb ub c xb : Nat) (p : PressD) (t : StD) (vj : Value) (w : World) : Prop :=
  MOw B w mb pb ub c p t vj ∧ Blk w xb #[.pointer (some ⟨mb, 0, none⟩)] 99
/-- A step more, if its situation is new. -/
def stepY (i : Nat) (l : List StepD) (x : YA) : List StepD := if l.any (fun t => sitD t.at_ == sitD x.nx) then l else l ++ [⟨x.nx, x.kind, x.unit, i⟩]
theorem stepY_add {p : PressD} {t : StD} {i : Nat} {l : List StepD} {x : YA} (h : actErr p t x.kind x.unit = 0) (h2 : x.nx = actD p t x.kind x.unit) : addStep p i t l (x.kind, x.unit) = stepY i l x := by
  unfold addStep stepY
  dsimp only
  rw [if_pos h, ← h2]
theorem addStep_no {p : PressD} {t : StD} {i : Nat} {l : List StepD} {k : Int} {u : Nat} (h : actErr p t k u ≠ 0) : addStep p i t l (k, u) = l := by
  unfold addStep; rw [if_neg h]
/-- Behind k kinds; and behind u towers of the next one. -/
def foldK (p : PressD) (i : Nat) (t : StD) (l : List StepD) (k : Nat) : List StepD := ((List.range k).flatMap fun j => (List.range t.units.length).map fun u => (((j + 1 : Nat) : Int), u)).foldl (addStep p i t) l
def foldU (p : PressD) (i : Nat) (t : StD) (l : List StepD) (k u : Nat) : List StepD := ((List.range u).map fun u => (((k + 1 : Nat) : Int), u)).foldl (addStep p i t) (foldK p i t l k)
theorem foldU_zero (p : PressD) (i : Nat) (t : StD) (l : List StepD) (k : Nat) : foldU p i t l k 0 = foldK p i t l k := rfl
theorem foldU_succ (p : PressD) (i : Nat) (t : StD) (l : List StepD) (k u : Nat) : foldU p i t l k (u + 1) = addStep p i t (foldU p i t l k u) (((k + 1 : Nat) : Int), u) := by
  unfold foldU; rw [List.range_succ, List.map_append, List.foldl_append]; rfl
theorem foldK_succ (p : PressD) (i : Nat) (t : StD) (l : List StepD) (k : Nat) : foldU p i t l k t.units.length = foldK p i t l (k + 1) := by
  unfold foldU foldK; rw [List.range_succ, List.flatMap_append, List.foldl_append]; simp
theorem foldK_end (p : PressD) (i : Nat) (t : StD) (l : List StepD) : foldK p i t l 12 = expandD p i t l := rfl

/-- A copy of a press at work. -/
theorem MOw.fresh {B B' : Nat} {w : World} {mb pb ub c nb ub' c' : Nat} {p : PressD} {s : StD} {vj : Value} (h : MOw B w mb pb ub c p s vj)
    (hb : Blk w nb #[.pointer (some ⟨pb, 0, none⟩), .int .i64 s.drive, .bool s.folder, .slice (some ⟨ub', 0, none⟩) s.units.length c', .int .i64 s.fresh] 104)
    (hu : w.ownsRow B' 50 5 (.slice (some ⟨ub', 0, none⟩) s.units.length c') s.units.length (uL s.units)) (hB : B ≤ B') (hn : B ≤ nb) (h0 : 0 < s.units.length) : MOw B w nb pb ub' c' p s vj := by
  refine ⟨hb, h.bp, ?_, h.jm, h.jl, hn, h.lp, Nat.le_trans hB (hu.lt ub' rfl).1⟩
  rcases hu.2 with ⟨_, e⟩ | ⟨g, cap, cur, hv, _, hb, hc, hm, hs, ht⟩
  · omega
  · cases hv
    exact ⟨cur, hb, ⟨hc, hm, hs⟩, ht⟩

theorem actions_any (mb : Nat) (w : World) : Calls Try.prog 64 #[.pointer (some ⟨mb, 0, none⟩)] w fun e w' =>
    ∃ xb, e = .returned (.func (.func 79) #[] #[.pointer (some ⟨xb, 0, none⟩)]) ∧ Blk w' xb #[.pointer (some ⟨mb, 0, none⟩)] 99 ∧ w.heap.size ≤ xb ∧ Ext w w' := by
  go_enter Try.func64, Try.ntmps64
  go_wp2_with (
    refine wpList_box1 (t := 99) (v := .pointer (some ⟨mb, 0, none⟩)) rfl rfl rfl rfl ?_
    rintro xb w1 hx1 hx2 hx3
    have XB := Lib.hid hx1
    have X1 := Lib.hid hx2
    have L1 := Lib.hid hx3
    clear hx1 hx2 hx3)
  go_ret
  exact ⟨_, rfl, XB.out, L1.out, X1.out⟩

set_option maxRecDepth 100000 in
set_option maxHeartbeats 4000000 in
theorem actions_gives (n : Nat) (hn : 1 ≤ n) {B mb pb ub c xb : Nat} {p : PressD} {t : StD} {vj : Value} (i : Nat) (l0 : List StepD) (w : World) (hl : t.units.length ≤ 3) (hj : t.units.length = p.jam.length) (h0 : 0 < t.units.length) :
    IterGives n Try.prog 79 #[.pointer (some ⟨xb, 0, none⟩)] YA.args (LiveM B mb pb ub c xb p t vj) (LiveY B pb p t vj) (stepY i) l0 (expandD p i t l0) w := by
  intro l J W hxw hJx hJM hY hJ0
  have hcl := fun W1 (h : MOw B W1 mb pb ub c p t vj) => clone_any t.units _ W1 (h.un (Nat.le_trans hl (by decide))) (Nat.le_trans hl (by decide))
  refine callsIn_wide.2 ?_
  have HXJ := Lib.hid hJx
  have HJM := Lib.hid hJM
  have HY := Lib.hid hY
  have HL := Lib.hid hl
  have HJJ := Lib.hid hj
  have HP := Lib.hid h0
  have HCL := Lib.hid hcl
  have HXW := Lib.hid hxw
  clear hJx hJM hY hl hj h0 hcl hxw
  go_enter Try.func79, Try.ntmps79
  go_upto_region 1 with (fail)
  go_loopw [3] (fun t3 wr => ∃ k : Nat, k ≤ 12 ∧ t3 = .int .i64 ((k:Int) + 1) ∧ Hid (J (foldK p i t l0 k) wr)) (fun t3 _ => 13 - (intOf t3).toNat)
  case atStart => exact ⟨0, by omega, rfl, hJ0⟩
  case round =>
    obtain ⟨k, hk, rfl, HJ⟩ := hrel
    have hm := HJM.out _ _ HJ.out
    have d := hm.1.bm.cell
    have dx := hm.2.cell
    clear hm
    by_cases hlt : k < 12
    · have i1 : (k:Int) + 1 ≤ 12 := by omega
      go_upto_region 4 with (fail)
      clear d dx
      obtain ⟨wo, rfl⟩ : ∃ W, W = wr := ⟨wr, rfl⟩
      go_loopw [17] (fun t17 wr => ∃ u : Nat, u ≤ t.units.length ∧ t17 = .int .i64 u ∧ Hid (J (foldU p i t l0 k u) wr)) (fun t17 _ => t.units.length - (intOf t17).toNat)
      case atStart => exact ⟨0, by omega, rfl, by rw [foldU_zero]; exact HJ⟩
      case round =>
        obtain ⟨u, hu, rfl, HJ2⟩ := hrel
        have hub : u ≤ 3 := Nat.le_trans hu HL.out
        by_cases hlt2 : u < t.units.length
        · have hm := HJM.out _ _ HJ2.out
          have i3 : (u:Int) < (t.units.length:Int) := by omega
          go_upto_region 6 with (fail)
          try simp only [Act.put, List.setIfInBounds_toArray, List.set_cons_zero, List.set_cons_succ]
          go_cut [5] (fun v W => ∃ nb, v = .pointer (some ⟨nb, 0, none⟩) ∧ Hid (Blk W nb #[.pointer (some ⟨pb, 0, none⟩), .int .i64 t.drive, .bool t.folder, .slice (some ⟨ub, 0, none⟩) t.units.length c, .int .i64 t.fresh] 104) ∧ Hid (wr.heap.size ≤ nb) ∧ Hid (Ext wr W))
          case first =>
            as_aux_lemma =>
              have d := hm.1.bm.cell
              have dx := hm.2.cell
              have hS : ∀ W, Ext wr W → ((∀ j, W.cell? ⟨mb, j, none⟩ = (#[.pointer (some ⟨pb, 0, none⟩), .int .i64 t.drive, .bool t.folder, .slice (some ⟨ub, 0, none⟩) t.units.length c, .int .i64 t.fresh] : Array Value)[j]?) ∧ (∀ j, W.cell? ⟨xb, j, none⟩ = (#[.pointer (some ⟨mb, 0, none⟩)] : Array Value)[j]?)) := fun W hx => ⟨(hm.1.ext hx).bm.cell, (hm.2.ext hx).cell⟩
              clear d dx hm
              go_region_held3 (fun wx => (∀ j, wx.cell? ⟨mb, j, none⟩ = (#[.pointer (some ⟨pb, 0, none⟩), .int .i64 t.drive, .bool t.folder, .slice (some ⟨ub, 0, none⟩) t.units.length c, .int .i64 t.fresh] : Array Value)[j]?) ∧ (∀ j, wx.cell? ⟨xb, j, none⟩ = (#[.pointer (some ⟨mb, 0, none⟩)] : Array Value)[j]?)) ((first | exact hS _ (Below.refl _ wr).drew | exact hS _ (ext_lit wr _ _).drew)) ((fail))
              have hnb := newB wr #[.pointer (some ⟨pb, 0, none⟩), .int .i64 t.drive, .bool t.folder, .slice (some ⟨ub, 0, none⟩) t.units.length c, .int .i64 t.fresh] 104
              have hd : ∀ W : World, Ext W W.drew := fun W => (Below.refl _ W).drew
              have HNB := Lib.hid hnb
              have HD := Lib.hid hd
              clear hnb hd
              go_wp2
              go_meet
              case rel => exact ⟨wr.heap.size, rfl, Blk.ext HNB.out.1 (HD.out _), Nat.le_refl _, Ext.tr HNB.out.2.1 (HD.out _)⟩
          case rest =>
          obtain ⟨nb, rfl, NB, LN, X1⟩ := hcut
          obtain ⟨w2, rfl⟩ : ∃ W, W = wc := ⟨wc, rfl⟩
          have hm2 := hm.1.ext X1.out
          have d := hm2.bm.cell
          have dx := (hm.2.ext X1.out).cell
          have dn := NB.out.cell
          have hc2 := HCL.out _ hm2
          have hxm := hm.2
          clear hm
          have HM := Lib.hid hm2
          have HC := Lib.hid hc2
          have XM := Lib.hid hxm
          clear hm2 hc2 hxm
          go_upto_region 9 with (first
            | (go_at_call 65
               refine HC.out.mono ?_
               rintro e w3 ⟨v, rfl, hown, hx3⟩
               obtain ⟨u2, c2, hv2⟩ := row_pos hown HP.out
               subst hv2
               have nb2 := NB.out.ext hx3
               have hm2 := HM.out.ext hx3
               have x2 := X1.out.tr hx3
               have hlw := X1.out.size
               have hnu : u2 ≠ nb := fun e => by have h1 := (hown.lt u2 rfl).1; have h2 := NB.out.lt; omega
               have ho2 := owns_weak hown hlw
               clear d dx dn NB HM X1 HC hx3 hown hlw
               have dn := nb2.cell
               have NB := Lib.hid nb2
               have HM := Lib.hid hm2
               have X1 := Lib.hid x2
               have HO := Lib.hid ho2
               have HNU := Lib.hid hnu
               clear nb2 hm2 x2 ho2 hnu)
            | (with_reducible refine wpList_setK (b := nb) (i := 3) (v := .slice (some ⟨u2, 0, none⟩) t.units.length c2) rfl rfl NB.out ?_ ?_ ?_ ?_ ?_ ?_ ?_
               · rfl
               · rfl
               · simp
               · kernel_rfl
               · rfl
               · rfl
               rintro w4 hb4 ho4
               have hb5 : Blk w4 nb #[.pointer (some ⟨pb, 0, none⟩), .int .i64 t.drive, .bool t.folder, .slice (some ⟨u2, 0, none⟩) t.units.length c2, .int .i64 t.fresh] 104 := hb4
               have x2 := X1.out.then_only ho4 (fun b (e : b = nb) => by rw [e]; exact LN.out)
               have ho2 := owns_only HO.out ho4 (fun b hb (e : b = nb) => by cases hb; exact HNU.out e)
               clear dn NB HM X1 HO hb4 ho4
               have NB := Lib.hid hb5
               have X1 := Lib.hid x2
               have HO := Lib.hid ho2
               clear hb5 x2 ho2)
            | (with_reducible refine wpList_allocA (t := 63) rfl rfl Try.zeroValue63 ?_
               rintro ab w5 hz1 hz2 hz3
               have nb2 := NB.out.ext hz2
               have x2 := X1.out.tr hz2
               have ho2 := owns_ext HO.out hz2
               have la : wr.heap.size ≤ ab := Nat.le_trans X1.out.size hz3
               have hna : nb ≠ ab := fun e => by have := NB.out.lt; omega
               have hua : u2 ≠ ab := fun e => by have := (HO.out.lt u2 rfl).2; omega
               clear NB X1 HO hz2 hz3
               have NB := Lib.hid nb2
               have X1 := Lib.hid x2
               have HO := Lib.hid ho2
               have AB := Lib.hid hz1
               have LA := Lib.hid la
               have HNA := Lib.hid hna
               have HUA := Lib.hid hua
               clear nb2 x2 ho2 hz1 la hna hua)
            | (with_reducible refine wpList_storeK (ty := 63) (cells := #[.int .i64 ((k:Int) + 1), .int .i64 u]) rfl rfl AB.out ?_ ?_ ?_ ?_ ?_ ?_
               · rfl
               · rfl
               · kernel_rfl
               · rfl
               · simp [Value.oneCell']
               rintro w6 hb6 ho6
               have nb2 := NB.out.only ho6 HNA.out
               have x2 := X1.out.then_only ho6 (fun k (e : k = ab) => by rw [e]; exact LA.out)
               have ho2 := owns_only HO.out ho6 (fun b hb (e : b = ab) => by cases hb; exact HUA.out e)
               have da := hb6.cell
               clear NB X1 HO AB ho6
               have NB := Lib.hid nb2
               have X1 := Lib.hid x2
               have HO := Lib.hid ho2
               have AB := Lib.hid hb6
               clear nb2 x2 ho2 hb6))
          have hmw := (HJM.out _ _ HJ2.out).1
          have hBw : B ≤ wr.heap.size := by have := hmw.lm; have := hmw.bm.lt; omega
          have hln := LN.out
          have hmn := MOw.fresh (hmw.ext X1.out) NB.out HO.out hBw (Nat.le_trans hBw hln) HP.out
          have hlu : wr.heap.size ≤ u2 := (HO.out.lt u2 rfl).1
          have hact := act_any ((k:Int) + 1) (u:Int) hmn HL.out HJJ.out (by unfold I64; omega)
          obtain ⟨er, her⟩ : ∃ x, actErr p t ((k:Int) + 1) u = x := ⟨_, rfl⟩
          unfold ActPost at hact
          rw [her] at hact
          have hj1 : ∀ w7, Only (fun b => b = nb ∨ b = u2) w6 w7 → Ext wr w7 := fun w7 ho => X1.out.then_only ho (fun b e => by rcases e with e | e <;> omega)
          have hkc : ((k + 1 : Nat) : Int) = (k:Int) + 1 := by omega
          clear hmw hmn hBw hln hlu
          have HACT := Lib.hid hact
          have HJ1 := Lib.hid hj1
          clear hact hj1
          by_cases he0 : er = 0
          · subst he0
            have hadd : ∀ l1 x, x.kind = (k:Int) + 1 → x.unit = u → x.nx = actD p t ((k:Int) + 1) u → addStep p i t l1 (((k + 1 : Nat) : Int), u) = stepY i l1 x := fun l1 x h1 h2 h3 => by
              rw [hkc]
              have := stepY_add (p := p) (t := t) (i := i) (l := l1) (x := x) (by rw [h1, h2]; exact her) (by rw [h1, h2]; exact h3)
              rw [h1, h2] at this
              exact this
            have HADD := Lib.hid hadd
            have HER := Lib.hid her
            clear hadd her
            clear hkc
            refine (wpIn_wide (n := n)).1 ?_
            gi_wp2_with (
              refine ⟨trivial, ?_⟩
              gi_at_call 47
              refine (callsIn_wide.2 HACT.out).mono ?_
              rintro e w7 ⟨rfl, hm7, ho7⟩
              have hx7 := HJ1.out _ ho7
              have hlive : LiveY B pb p t vj ⟨(k:Int) + 1, u, nb, u2, c2, actD p t ((k:Int) + 1) u⟩ w7 := ⟨hm7, HER.out, rfl, ⟨by dsimp only; omega, by dsimp only; omega⟩, hlt2⟩
              have hab7 := AB.out.only ho7 (fun h => h.elim (fun e => HNA.out e.symm) (fun e => HUA.out e.symm))
              obtain ⟨fn, tmps, assign, body, hy, hR⟩ := HY.out _ ⟨(k:Int) + 1, u, nb, u2, c2, actD p t ((k:Int) + 1) u⟩ w7 (HXJ.out _ _ _ HJ2.out hx7) hlive
              unfold YA.args at hy
              dsimp only at hy
              clear da
              have da := hab7.cell
              have HYR := Lib.hid hR
              clear hR
              clear hm7 ho7 hx7 hlive hab7)
            refine HYR.out.mono ?_
            rintro e w8 ⟨rfl, hj8⟩
            rw [← HADD.out _ _ rfl rfl rfl, ← foldU_succ] at hj8
            have HJ8 := Lib.hid hj8
            clear hj8
            gi_wp2
            go_wp2
            go_roundw
            case rel => exact ⟨u + 1, by omega, by go_num, HJ8⟩
            case measure => first | (simp [intOf]; done) | (simp [intOf]; omega)
          · have e0 : (er == 0) = false := by simpa using he0
            have hno : ∀ l1, addStep p i t l1 (((k + 1 : Nat) : Int), u) = l1 := fun l1 => by rw [hkc]; exact addStep_no (by rw [her]; exact he0)
            have HNO := Lib.hid hno
            clear hno
            clear hkc her
            go_wp2_with (
              go_at_call 47
              refine HACT.out.mono ?_
              rintro e w7 ⟨rfl, hm7, ho7⟩
              have hx7 := HJ1.out _ ho7
              have hj7 := HXJ.out _ _ _ HJ2.out hx7
              clear hm7 ho7 hx7 da
              have HJ7 := Lib.hid hj7
              clear hj7)
            go_roundw
            case rel => exact ⟨u + 1, by omega, by go_num, by rw [foldU_succ, HNO.out]; exact HJ7⟩
            case measure => first | (simp [intOf]; done) | (simp [intOf]; omega)
        · have i3 : decide ((u:Int) < (t.units.length:Int)) = false := decide_eq_false (by omega)
          obtain rfl : u = t.units.length := by omega
          have hj := HJ2.out
          rw [foldK_succ] at hj
          have HJ3 := Lib.hid hj
          clear hj
          go_wp2
          go_roundw
          case rel => exact ⟨k + 1, by omega, by go_num, HJ3⟩
          case measure => first | (simp [intOf]; done) | (simp [intOf]; omega)
    · have i1 : decide ((k:Int) + 1 ≤ 12) = false := decide_eq_false (by omega)
      obtain rfl : k = 12 := by omega
      have hj := HJ.out
      rw [foldK_end] at hj
      have HJ3 := Lib.hid hj
      clear hj
      go_wp2
      refine Great.bodyPost_end0 rfl rfl ?_
      exact ⟨⟨_, rfl⟩, HJ3.out⟩
end Go.Proofs.Ytojobdffnnibaaa
