/- The actions that are allowed, with the presses to which they lead: the iterator's contract. The actions that are allowed: the iterator's contract, where a round may end it. press.Begin. fulfils, aimed. law07.goal: an own copy of a goal. A situation as a key. -/
import Derived.Test.YtojobdffnnibaaaGreatPSit
import Derived.Test.YtojobdffnnibaaaGreatJ7
import Derived.Test.YtojobdffnnibaaaGreatJ4
import Derived.Test.YtojobdffnnibaaaGreatJ1
import Derived.Test.YtojobdffnnibaaaGreatJ5
namespace Go.Proofs.YtojobdffnnibaaaGreat
open Go.RowKit Go.Shelf
set_option linter.unusedVariables false
set_option linter.unusedSimpArgs false
attribute [local go_sem] Oper.semAt_some
/-- What is handed over: the action, and where the press lies to which it leads. -/
structure YA where
 kind : Int
 unit : Nat
 mb : Nat
 ub : Nat
 c : Nat
 nx : StD
def YA.args (x : YA) : Array Value := #[.agg #[.int .i64 x.kind, .int .i64 x.unit], .pointer (some ⟨x.mb, 0, none⟩)]
/-- It lives, and the action leads there. -/
def LiveY (B pb : Nat) (p : PressD) (t : StD) (vj : Value) (x : YA) (w : World) : Prop :=
 MOw B w x.mb pb x.ub x.c p x.nx vj ∧ actErr p t x.kind x.unit = 0 ∧ x.nx = actD p t x.kind x.unit ∧ (1 ≤ x.kind ∧ x.kind ≤ 12) ∧ x.unit < t.units.length
/-- The press that is gone through lives. -/
def LiveM (B mb pb ub c xb : Nat) (p : PressD) (t : StD) (vj : Value) (w : World) : Prop :=
 MOw B w mb pb ub c p t vj ∧ Blk w xb #[.pointer (some ⟨mb, 0, none⟩)] 83
/-- A step more, if its situation is new. -/
def stepY (i : Nat) (l : List StepD) (x : YA) : List StepD := if l.any (fun t => sitD t.at_ == sitD x.nx) then l else l ++ [⟨x.nx, x.kind, x.unit, i⟩]
theorem stepY_add {p : PressD} {t : StD} {i : Nat} {l : List StepD} {x : YA} (h : actErr p t x.kind x.unit = 0) (h2 : x.nx = actD p t x.kind x.unit) : addStep p i t l (x.kind, x.unit) = stepY i l x := by
 unfold addStep stepY; dsimp only; rw [if_pos h, ← h2]
theorem addStep_no {p : PressD} {t : StD} {i : Nat} {l : List StepD} {k : Int} {u : Nat} (h : actErr p t k u ≠ 0) : addStep p i t l (k, u) = l := by
 unfold addStep; rw [if_neg h]
/-- Behind k kinds; and behind u towers of the next one. -/
def foldK (p : PressD) (i : Nat) (t : StD) (l : List StepD) (k : Nat) : List StepD := ((List.range k).flatMap fun j => (List.range t.units.length).map fun u => (((j + 1 : Nat) : Int), u)).foldl (addStep p i t) l
def foldU (p : PressD) (i : Nat) (t : StD) (l : List StepD) (k u : Nat) : List StepD := ((List.range u).map fun u => (((k + 1 : Nat) : Int), u)).foldl (addStep p i t) (foldK p i t l k)
theorem foldU_zero (p : PressD) (i : Nat) (t : StD) (l : List StepD) (k : Nat) : foldU p i t l k 0 = foldK p i t l k := rfl
theorem foldU_succ (p : PressD) (i : Nat) (t : StD) (l : List StepD) (k u : Nat) : foldU p i t l k (u + 1) = addStep p i t (foldU p i t l k u) (((k + 1 : Nat) : Int), u) := by
 unfold foldU; rw [List.range_succ, List.map_append, List.foldl_append]; rfl
theorem foldK_succ (p : PressD) (i : Nat) (t : StD) (l : List StepD) (k : Nat) : foldU p i t l k t.units.length = foldK p i t l (k + 1) := by
 unfold foldU foldK; rw [List.range_succ, List.flatMap_append, List.foldl_append]; simp
theorem foldK_end (p : PressD) (i : Nat) (t : StD) (l : List StepD) : foldK p i t l 12 = expandD p i t l := rfl
theorem MOw.fresh {B B' : Nat} {w : World} {mb pb ub c nb ub' c' : Nat} {p : PressD} {s : StD} {vj : Value} (h : MOw B w mb pb ub c p s vj)
 (hb : Blk w nb #[.pointer (some ⟨pb, 0, none⟩), .int .i64 s.drive, .bool s.folder, .slice (some ⟨ub', 0, none⟩) s.units.length c', .int .i64 s.fresh] 139)
 (hu : w.ownsRow B' 82 5 (.slice (some ⟨ub', 0, none⟩) s.units.length c') s.units.length (uL s.units)) (hB : B ≤ B') (hn : B ≤ nb) (h0 : 0 < s.units.length) : MOw B w nb pb ub' c' p s vj := by
 refine ⟨hb, h.bp, ?_, h.jm, h.jl, hn, h.lp, Nat.le_trans hB (hu.lt ub' rfl).1⟩
 rcases hu.2 with ⟨_, e⟩ | ⟨g, cap, cur, hv, _, hb, hc, hm, hs, ht⟩
 omega
 · cases hv
   exact ⟨cur, hb, ⟨hc, hm, hs⟩, ht⟩
theorem actions_any (mb : Nat) (w : World) : Calls Tryz.prog 49 #[.pointer (some ⟨mb, 0, none⟩)] w fun e w' =>
 ∃ xb, e = .returned (.func (.func 77) #[] #[.pointer (some ⟨xb, 0, none⟩)]) ∧ Blk w' xb #[.pointer (some ⟨mb, 0, none⟩)] 83 ∧ w.heap.size ≤ xb ∧ Ext w w' := by
 go_enter Tryz.func49, Tryz.ntmps49
 go_wp2_with (
  refine wpList_box1 (t := 83) (v := .pointer (some ⟨mb, 0, none⟩)) rfl rfl rfl rfl ?_; rintro xb w1 hx1 hx2 hx3; have XB := Hd hx1; have X1 := Hd hx2; have L1 := Hd hx3
  clear hx1 hx2 hx3)
 go_ret; exact ⟨_, rfl, XB.out, L1.out, X1.out⟩
set_option maxRecDepth 100000 in
set_option maxHeartbeats 4000000 in
theorem actions_gives (n : Nat) (hn : 1 ≤ n) {B mb pb ub c xb : Nat} {p : PressD} {t : StD} {vj : Value} (i : Nat) (l0 : List StepD) (w : World) (hl : t.units.length ≤ 3) (hj : t.units.length = p.jam.length) (h0 : 0 < t.units.length) :
 IterGives n Tryz.prog 77 #[.pointer (some ⟨xb, 0, none⟩)] YA.args (LiveM B mb pb ub c xb p t vj) (LiveY B pb p t vj) (stepY i) l0 (expandD p i t l0) w := by
 intro l J W hxw hJx hJM hY hJ0; have hcl := fun W1 (h : MOw B W1 mb pb ub c p t vj) => clone_any t.units _ W1 (h.un (Nat.le_trans hl (by decide))) (Nat.le_trans hl (by decide)); refine callsIn_wide.2 ?_; have HXJ := Hd hJx; have HJM := Hd hJM; have HY := Hd hY; have HL := Hd hl; have HJJ := Hd hj; have HP := Hd h0; have HCL := Hd hcl; have HXW := Hd hxw; clear hJx hJM hY hl hj h0 hcl hxw
 go_enter Tryz.func77, Tryz.ntmps77
 go_upto_region 1 with (fail)
 go_loopw [3] (fun t3 wr => ∃ k : Nat, k ≤ 12 ∧ t3 = .int .i64 ((k:Int) + 1) ∧ Hid (J (foldK p i t l0 k) wr)) (fun t3 _ => 13 - (intOf t3).toNat)
 case atStart => exact ⟨0, by omega, rfl, hJ0⟩
 case round =>
  obtain ⟨k, hk, rfl, HJ⟩ := hrel; have hm := HJM.out _ _ HJ.out; have d := hm.1.bm.cell; have dx := hm.2.cell; clear hm
  by_cases hlt : k < 12
  {
  have i1 : (k:Int) + 1 ≤ 12 := by omega
  go_upto_region 4 with (fail)
  clear d dx; obtain ⟨wo, rfl⟩ : ∃ W, W = wr := ⟨wr, rfl⟩
  go_loopw [17] (fun t17 wr => ∃ u : Nat, u ≤ t.units.length ∧ t17 = .int .i64 u ∧ Hid (J (foldU p i t l0 k u) wr)) (fun t17 _ => t.units.length - (intOf t17).toNat)
  case atStart => exact ⟨0, by omega, rfl, by rw [foldU_zero]; exact HJ⟩
  case round =>
   obtain ⟨u, hu, rfl, HJ2⟩ := hrel; have hub : u ≤ 3 := Nat.le_trans hu HL.out
   by_cases hlt2 : u < t.units.length
   {
   have hm := HJM.out _ _ HJ2.out; have i3 : (u:Int) < (t.units.length:Int) := by omega
   go_upto_region 6 with (fail)
   try simp only [kA, kB, kC, kD, kE]
   go_cut [5] (fun v W => ∃ nb, v = .pointer (some ⟨nb, 0, none⟩) ∧ Hid (Blk W nb #[.pointer (some ⟨pb, 0, none⟩), .int .i64 t.drive, .bool t.folder, .slice (some ⟨ub, 0, none⟩) t.units.length c, .int .i64 t.fresh] 139) ∧ Hid (wr.heap.size ≤ nb) ∧ Hid (Ext wr W))
   case first =>
    as_aux_lemma =>
     have d := hm.1.bm.cell; have dx := hm.2.cell; have hS : ∀ W, Ext wr W → ((∀ j, W.cell? ⟨mb, j, none⟩ = (#[.pointer (some ⟨pb, 0, none⟩), .int .i64 t.drive, .bool t.folder, .slice (some ⟨ub, 0, none⟩) t.units.length c, .int .i64 t.fresh] : Array Value)[j]?) ∧ (∀ j, W.cell? ⟨xb, j, none⟩ = (#[.pointer (some ⟨mb, 0, none⟩)] : Array Value)[j]?)) := fun W hx => ⟨(hm.1.ext hx).bm.cell, (hm.2.ext hx).cell⟩; clear d dx hm
     go_region_held3 (fun wx => (∀ j, wx.cell? ⟨mb, j, none⟩ = (#[.pointer (some ⟨pb, 0, none⟩), .int .i64 t.drive, .bool t.folder, .slice (some ⟨ub, 0, none⟩) t.units.length c, .int .i64 t.fresh] : Array Value)[j]?) ∧ (∀ j, wx.cell? ⟨xb, j, none⟩ = (#[.pointer (some ⟨mb, 0, none⟩)] : Array Value)[j]?)) ((first | exact hS _ (Below.refl _ wr).drew | exact hS _ (ext_lit wr _ _).drew)) ((fail))
     have hnb := newB wr #[.pointer (some ⟨pb, 0, none⟩), .int .i64 t.drive, .bool t.folder, .slice (some ⟨ub, 0, none⟩) t.units.length c, .int .i64 t.fresh] 139; have hd : ∀ W : World, Ext W W.drew := fun W => (Below.refl _ W).drew; have HNB := Hd hnb; have HD := Hd hd; clear hnb hd; go_wp2; go_meet
     case rel => exact ⟨wr.heap.size, rfl, Blk.ext HNB.out.1 (HD.out _), Nat.le_refl _, Ext.tr HNB.out.2.1 (HD.out _)⟩
   case rest =>
   obtain ⟨nb, rfl, NB, LN, X1⟩ := hcut; obtain ⟨w2, rfl⟩ : ∃ W, W = wc := ⟨wc, rfl⟩; have hm2 := hm.1.ext X1.out; have d := hm2.bm.cell; have dx := (hm.2.ext X1.out).cell; have dn := NB.out.cell; have hc2 := HCL.out _ hm2; have hxm := hm.2; clear hm; have HM := Hd hm2; have HC := Hd hc2; have XM := Hd hxm; clear hm2 hc2 hxm
   go_upto_region 9 with (first
    | (go_at_call 68
       refine HC.out.mono ?_; rintro e w3 ⟨v, rfl, hown, hx3⟩; obtain ⟨u2, c2, hv2⟩ := row_pos hown HP.out; subst hv2; have nb2 := NB.out.ext hx3; have hm2 := HM.out.ext hx3; have x2 := X1.out.tr hx3; have hlw := X1.out.size; have hnu : u2 ≠ nb := fun e => (by have h1 := (hown.lt u2 rfl).1; have h2 := NB.out.lt; omega); have ho2 := owns_weak hown hlw; clear d dx dn NB HM X1 HC hx3 hown hlw; have dn := nb2.cell; have NB := Hd nb2; have HM := Hd hm2; have X1 := Hd x2; have HO := Hd ho2; have HNU := Hd hnu
       clear nb2 hm2 x2 ho2 hnu)
    | (with_reducible refine wpList_setK (b := nb) (i := 3) (v := .slice (some ⟨u2, 0, none⟩) t.units.length c2) rfl rfl NB.out ?_ ?_ ?_ ?_ ?_ ?_ ?_
       rfl; rfl
       · simp
       kernel_rfl; rfl; rfl; rintro w4 hb4 ho4; have hb5 : Blk w4 nb #[.pointer (some ⟨pb, 0, none⟩), .int .i64 t.drive, .bool t.folder, .slice (some ⟨u2, 0, none⟩) t.units.length c2, .int .i64 t.fresh] 139 := hb4; have x2 := X1.out.then_only ho4 (fun b (e : b = nb) => by rw [e]; exact LN.out); have ho2 := owns_only HO.out ho4 (fun b hb (e : b = nb) => by cases hb; exact HNU.out e); clear dn NB HM X1 HO hb4 ho4; have NB := Hd hb5; have X1 := Hd x2; have HO := Hd ho2
       clear hb5 x2 ho2)
    | (with_reducible refine wpList_allocA (t := 72) rfl rfl Tryz.zeroValue72 ?_
       rintro ab w5 hz1 hz2 hz3; have nb2 := NB.out.ext hz2; have x2 := X1.out.tr hz2; have ho2 := owns_ext HO.out hz2; have la : wr.heap.size ≤ ab := Nat.le_trans X1.out.size hz3; have hna : nb ≠ ab := fun e => (by have := NB.out.lt; omega); have hua : u2 ≠ ab := fun e => (by have := (HO.out.lt u2 rfl).2; omega); clear NB X1 HO hz2 hz3; have NB := Hd nb2; have X1 := Hd x2; have HO := Hd ho2; have AB := Hd hz1; have LA := Hd la; have HNA := Hd hna; have HUA := Hd hua
       clear nb2 x2 ho2 hz1 la hna hua)
    | (with_reducible refine wpList_storeK (ty := 72) (cells := #[.int .i64 ((k:Int) + 1), .int .i64 u]) rfl rfl AB.out ?_ ?_ ?_ ?_ ?_ ?_
       rfl; rfl; kernel_rfl; rfl; simp [Value.oneCell']; rintro w6 hb6 ho6; have nb2 := NB.out.only ho6 HNA.out; have x2 := X1.out.then_only ho6 (fun k (e : k = ab) => by rw [e]; exact LA.out); have ho2 := owns_only HO.out ho6 (fun b hb (e : b = ab) => by cases hb; exact HUA.out e); have da := hb6.cell; clear NB X1 HO AB ho6; have NB := Hd nb2; have X1 := Hd x2; have HO := Hd ho2; have AB := Hd hb6
       clear nb2 x2 ho2 hb6))
   have hmw := (HJM.out _ _ HJ2.out).1; have hBw : B ≤ wr.heap.size := (by have := hmw.lm; have := hmw.bm.lt; omega); have hln := LN.out; have hmn := MOw.fresh (hmw.ext X1.out) NB.out HO.out hBw (Nat.le_trans hBw hln) HP.out; have hlu : wr.heap.size ≤ u2 := (HO.out.lt u2 rfl).1; have hact := act_any ((k:Int) + 1) (u:Int) hmn HL.out HJJ.out (by unfold I64; omega); obtain ⟨er, her⟩ : ∃ x, actErr p t ((k:Int) + 1) u = x := ⟨_, rfl⟩; unfold ActPost at hact; rw [her] at hact; have hj1 : ∀ w7, Only (fun b => b = nb ∨ b = u2) w6 w7 → Ext wr w7 := fun w7 ho => X1.out.then_only ho (fun b e => by rcases e with e | e <;> omega); have hkc : ((k + 1 : Nat) : Int) = (k:Int) + 1 := (by omega); clear hmw hmn hBw hln hlu; have HACT := Hd hact; have HJ1 := Hd hj1; clear hact hj1
   by_cases he0 : er = 0
   {
   subst he0
   have hadd : ∀ l1 x, x.kind = (k:Int) + 1 → x.unit = u → x.nx = actD p t ((k:Int) + 1) u → addStep p i t l1 (((k + 1 : Nat) : Int), u) = stepY i l1 x := fun l1 x h1 h2 h3 => by
    rw [hkc]; have := stepY_add (p := p) (t := t) (i := i) (l := l1) (x := x) (by rw [h1, h2]; exact her) (by rw [h1, h2]; exact h3); rw [h1, h2] at this; exact this
   have HADD := Hd hadd; have HER := Hd her; clear hadd her; clear hkc; refine (wpIn_wide (n := n)).1 ?_
   gi_wp2_with (
    refine ⟨trivial, ?_⟩
    gi_at_call 40
    refine (callsIn_wide.2 HACT.out).mono ?_; rintro e w7 ⟨rfl, hm7, ho7⟩; have hx7 := HJ1.out _ ho7; have hlive : LiveY B pb p t vj ⟨(k:Int) + 1, u, nb, u2, c2, actD p t ((k:Int) + 1) u⟩ w7 := ⟨hm7, HER.out, rfl, ⟨by dsimp only; omega, by dsimp only; omega⟩, hlt2⟩; have hab7 := AB.out.only ho7 (fun h => h.elim (fun e => HNA.out e.symm) (fun e => HUA.out e.symm)); obtain ⟨fn, tmps, assign, body, hy, hR⟩ := HY.out _ ⟨(k:Int) + 1, u, nb, u2, c2, actD p t ((k:Int) + 1) u⟩ w7 (HXJ.out _ _ _ HJ2.out hx7) hlive; unfold YA.args at hy; dsimp only at hy; clear da; have da := hab7.cell; have HYR := Hd hR; clear hR
    clear hm7 ho7 hx7 hlive hab7)
   refine HYR.out.mono ?_; rintro e w8 ⟨rfl, hj8⟩; rw [← HADD.out _ _ rfl rfl rfl, ← foldU_succ] at hj8; have HJ8 := Hd hj8; clear hj8
   gi_wp2
   go_wp2
   go_roundw
   case rel => exact ⟨u + 1, by omega, by go_num, HJ8⟩
   case measure => simp [intOf] <;> omega
   }
   {
   have e0 : (er == 0) = false := (by simpa using he0); have hno : ∀ l1, addStep p i t l1 (((k + 1 : Nat) : Int), u) = l1 := fun l1 => (by rw [hkc]; exact addStep_no (by rw [her]; exact he0)); have HNO := Hd hno; clear hno; clear hkc her
   go_wp2_with (
    go_at_call 40; refine HACT.out.mono ?_; rintro e w7 ⟨rfl, hm7, ho7⟩; have hx7 := HJ1.out _ ho7; have hj7 := HXJ.out _ _ _ HJ2.out hx7; clear hm7 ho7 hx7 da; have HJ7 := Hd hj7
    clear hj7)
   go_roundw
   case rel => exact ⟨u + 1, by omega, by go_num, by rw [foldU_succ, HNO.out]; exact HJ7⟩
   case measure => simp [intOf] <;> omega
   }
   }
   {
   have i3 : decide ((u:Int) < (t.units.length:Int)) = false := decide_eq_false (by omega); obtain rfl : u = t.units.length := (by omega); have hj := HJ2.out; rw [foldK_succ] at hj; have HJ3 := Hd hj; clear hj; go_wp2
   go_roundw
   case rel => exact ⟨k + 1, by omega, by go_num, HJ3⟩
   case measure => simp [intOf] <;> omega
   }
  }
  { have i1 : decide ((k:Int) + 1 ≤ 12) = false := decide_eq_false (by omega); obtain rfl : k = 12 := (by omega); have hj := HJ.out; rw [foldK_end] at hj; have HJ3 := Hd hj; clear hj; go_wp2; refine Great.bodyPost_end0 rfl rfl ?_; exact ⟨⟨_, rfl⟩, HJ3.out⟩ }
attribute [local go_sem] Oper.semAt_some
/-- The actions of some that are allowed. -/
def allowL (p : PressD) (t : StD) (ls : List (Int × Nat)) : List (Int × Nat) := ls.filter fun a => decide (actErr p t a.1 a.2 = 0)
def aK (p : PressD) (t : StD) (k : Nat) : List (Int × Nat) := allowL p t ((List.range k).flatMap fun j => (List.range t.units.length).map fun u => (((j + 1 : Nat) : Int), u))
def aU (p : PressD) (t : StD) (k u : Nat) : List (Int × Nat) := aK p t k ++ allowL p t ((List.range u).map fun u => (((k + 1 : Nat) : Int), u))
theorem aU_zero (p : PressD) (t : StD) (k : Nat) : aU p t k 0 = aK p t k := by unfold aU allowL; simp
theorem aU_yes {p : PressD} {t : StD} {k u : Nat} (h : actErr p t ((k:Int) + 1) u = 0) : aU p t k (u + 1) = aU p t k u ++ [((k:Int) + 1, u)] := by
 unfold aU allowL; rw [List.range_succ, List.map_append, List.filter_append, ← List.append_assoc]
 congr 1
 have hkc : ((k + 1 : Nat) : Int) = (k:Int) + 1 := (by omega); simp only [List.map_cons, List.map_nil, hkc]; rw [List.filter_cons_of_pos (by simpa using h), List.filter_nil]
theorem aU_no {p : PressD} {t : StD} {k u : Nat} (h : actErr p t ((k:Int) + 1) u ≠ 0) : aU p t k (u + 1) = aU p t k u := by
 unfold aU allowL; rw [List.range_succ, List.map_append, List.filter_append]; have hkc : ((k + 1 : Nat) : Int) = (k:Int) + 1 := (by omega); simp only [List.map_cons, List.map_nil, hkc]; rw [List.filter_cons_of_neg (by simpa using h), List.filter_nil, List.append_nil]
theorem aK_succ (p : PressD) (t : StD) (k : Nat) : aU p t k t.units.length = aK p t (k + 1) := by
 unfold aU aK allowL; rw [List.range_succ, List.flatMap_append, List.filter_append]; simp
theorem aK_end (p : PressD) (t : StD) : aK p t 12 = allowL p t (kindsD t.units.length) := rfl
set_option maxRecDepth 100000 in
set_option maxHeartbeats 4000000 in
theorem actions_stops (n : Nat) (hn : 1 ≤ n) {B mb pb ub c xb : Nat} {p : PressD} {t : StD} {vj : Value} (w : World) (hl : t.units.length ≤ 3) (hj : t.units.length = p.jam.length) (h0 : 0 < t.units.length) :
 IterStops n Tryz.prog 77 #[.pointer (some ⟨xb, 0, none⟩)] YA.args (LiveM B mb pb ub c xb p t vj) (LiveY B pb p t vj) (fun l x => l ++ [(x.kind, x.unit)]) [] (allowL p t (kindsD t.units.length)) w := by
 intro l J Jx W hxw hJx hJy hJM hY hJ0; have hcl := fun W1 (h : MOw B W1 mb pb ub c p t vj) => clone_any t.units _ W1 (h.un (Nat.le_trans hl (by decide))) (Nat.le_trans hl (by decide)); refine callsIn_wide.2 ?_; have HXJ := Hd hJx; have HYJ := Hd hJy; have HJM := Hd hJM; have HY := Hd hY; have HL := Hd hl; have HJJ := Hd hj; have HP := Hd h0; have HCL := Hd hcl; have HXW := Hd hxw; clear hJx hJy hJM hY hl hj h0 hcl hxw
 go_enter Tryz.func77, Tryz.ntmps77
 go_upto_region 1 with (fail)
 go_loopw [3] (fun t3 wr => ∃ k : Nat, k ≤ 12 ∧ t3 = .int .i64 ((k:Int) + 1) ∧ Hid (J (aK p t k) wr)) (fun t3 _ => 13 - (intOf t3).toNat)
 case atStart => exact ⟨0, by omega, rfl, hJ0⟩
 case round =>
  obtain ⟨k, hk, rfl, HJ⟩ := hrel; have hm := HJM.out _ _ HJ.out; have d := hm.1.bm.cell; have dx := hm.2.cell; clear hm
  by_cases hlt : k < 12
  {
  have i1 : (k:Int) + 1 ≤ 12 := by omega
  go_upto_region 4 with (fail)
  clear d dx; obtain ⟨wo, rfl⟩ : ∃ W, W = wr := ⟨wr, rfl⟩
  go_loopw [17] (fun t17 wr => ∃ u : Nat, u ≤ t.units.length ∧ t17 = .int .i64 u ∧ Hid (J (aU p t k u) wr)) (fun t17 _ => t.units.length - (intOf t17).toNat)
  case atStart => exact ⟨0, by omega, rfl, by rw [aU_zero]; exact HJ⟩
  case round =>
   obtain ⟨u, hu, rfl, HJ2⟩ := hrel; have hub : u ≤ 3 := Nat.le_trans hu HL.out
   by_cases hlt2 : u < t.units.length
   {
   have hm := HJM.out _ _ HJ2.out; have i3 : (u:Int) < (t.units.length:Int) := by omega
   go_upto_region 6 with (fail)
   try simp only [kA, kB, kC, kD, kE]
   go_cut [5] (fun v W => ∃ nb, v = .pointer (some ⟨nb, 0, none⟩) ∧ Hid (Blk W nb #[.pointer (some ⟨pb, 0, none⟩), .int .i64 t.drive, .bool t.folder, .slice (some ⟨ub, 0, none⟩) t.units.length c, .int .i64 t.fresh] 139) ∧ Hid (wr.heap.size ≤ nb) ∧ Hid (Ext wr W))
   case first =>
    as_aux_lemma =>
     have d := hm.1.bm.cell; have dx := hm.2.cell; have hS : ∀ W, Ext wr W → ((∀ j, W.cell? ⟨mb, j, none⟩ = (#[.pointer (some ⟨pb, 0, none⟩), .int .i64 t.drive, .bool t.folder, .slice (some ⟨ub, 0, none⟩) t.units.length c, .int .i64 t.fresh] : Array Value)[j]?) ∧ (∀ j, W.cell? ⟨xb, j, none⟩ = (#[.pointer (some ⟨mb, 0, none⟩)] : Array Value)[j]?)) := fun W hx => ⟨(hm.1.ext hx).bm.cell, (hm.2.ext hx).cell⟩; clear d dx hm
     go_region_held3 (fun wx => (∀ j, wx.cell? ⟨mb, j, none⟩ = (#[.pointer (some ⟨pb, 0, none⟩), .int .i64 t.drive, .bool t.folder, .slice (some ⟨ub, 0, none⟩) t.units.length c, .int .i64 t.fresh] : Array Value)[j]?) ∧ (∀ j, wx.cell? ⟨xb, j, none⟩ = (#[.pointer (some ⟨mb, 0, none⟩)] : Array Value)[j]?)) ((first | exact hS _ (Below.refl _ wr).drew | exact hS _ (ext_lit wr _ _).drew)) ((fail))
     have hnb := newB wr #[.pointer (some ⟨pb, 0, none⟩), .int .i64 t.drive, .bool t.folder, .slice (some ⟨ub, 0, none⟩) t.units.length c, .int .i64 t.fresh] 139; have hd : ∀ W : World, Ext W W.drew := fun W => (Below.refl _ W).drew; have HNB := Hd hnb; have HD := Hd hd; clear hnb hd; go_wp2; go_meet
     case rel => exact ⟨wr.heap.size, rfl, Blk.ext HNB.out.1 (HD.out _), Nat.le_refl _, Ext.tr HNB.out.2.1 (HD.out _)⟩
   case rest =>
   obtain ⟨nb, rfl, NB, LN, X1⟩ := hcut; obtain ⟨w2, rfl⟩ : ∃ W, W = wc := ⟨wc, rfl⟩; have hm2 := hm.1.ext X1.out; have d := hm2.bm.cell; have dx := (hm.2.ext X1.out).cell; have dn := NB.out.cell; have hc2 := HCL.out _ hm2; have hxm := hm.2; clear hm; have HM := Hd hm2; have HC := Hd hc2; have XM := Hd hxm; clear hm2 hc2 hxm
   go_upto_region 9 with (first
    | (go_at_call 68
       refine HC.out.mono ?_; rintro e w3 ⟨v, rfl, hown, hx3⟩; obtain ⟨u2, c2, hv2⟩ := row_pos hown HP.out; subst hv2; have nb2 := NB.out.ext hx3; have hm2 := HM.out.ext hx3; have x2 := X1.out.tr hx3; have hlw := X1.out.size; have hnu : u2 ≠ nb := fun e => (by have h1 := (hown.lt u2 rfl).1; have h2 := NB.out.lt; omega); have ho2 := owns_weak hown hlw; clear d dx dn NB HM X1 HC hx3 hown hlw; have dn := nb2.cell; have NB := Hd nb2; have HM := Hd hm2; have X1 := Hd x2; have HO := Hd ho2; have HNU := Hd hnu
       clear nb2 hm2 x2 ho2 hnu)
    | (with_reducible refine wpList_setK (b := nb) (i := 3) (v := .slice (some ⟨u2, 0, none⟩) t.units.length c2) rfl rfl NB.out ?_ ?_ ?_ ?_ ?_ ?_ ?_
       rfl; rfl
       · simp
       kernel_rfl; rfl; rfl; rintro w4 hb4 ho4; have hb5 : Blk w4 nb #[.pointer (some ⟨pb, 0, none⟩), .int .i64 t.drive, .bool t.folder, .slice (some ⟨u2, 0, none⟩) t.units.length c2, .int .i64 t.fresh] 139 := hb4; have x2 := X1.out.then_only ho4 (fun b (e : b = nb) => by rw [e]; exact LN.out); have ho2 := owns_only HO.out ho4 (fun b hb (e : b = nb) => by cases hb; exact HNU.out e); clear dn NB HM X1 HO hb4 ho4; have NB := Hd hb5; have X1 := Hd x2; have HO := Hd ho2
       clear hb5 x2 ho2)
    | (with_reducible refine wpList_allocA (t := 72) rfl rfl Tryz.zeroValue72 ?_
       rintro ab w5 hz1 hz2 hz3; have nb2 := NB.out.ext hz2; have x2 := X1.out.tr hz2; have ho2 := owns_ext HO.out hz2; have la : wr.heap.size ≤ ab := Nat.le_trans X1.out.size hz3; have hna : nb ≠ ab := fun e => (by have := NB.out.lt; omega); have hua : u2 ≠ ab := fun e => (by have := (HO.out.lt u2 rfl).2; omega); clear NB X1 HO hz2 hz3; have NB := Hd nb2; have X1 := Hd x2; have HO := Hd ho2; have AB := Hd hz1; have LA := Hd la; have HNA := Hd hna; have HUA := Hd hua
       clear nb2 x2 ho2 hz1 la hna hua)
    | (with_reducible refine wpList_storeK (ty := 72) (cells := #[.int .i64 ((k:Int) + 1), .int .i64 u]) rfl rfl AB.out ?_ ?_ ?_ ?_ ?_ ?_
       rfl; rfl; kernel_rfl; rfl; simp [Value.oneCell']; rintro w6 hb6 ho6; have nb2 := NB.out.only ho6 HNA.out; have x2 := X1.out.then_only ho6 (fun k (e : k = ab) => by rw [e]; exact LA.out); have ho2 := owns_only HO.out ho6 (fun b hb (e : b = ab) => by cases hb; exact HUA.out e); have da := hb6.cell; clear NB X1 HO AB ho6; have NB := Hd nb2; have X1 := Hd x2; have HO := Hd ho2; have AB := Hd hb6
       clear nb2 x2 ho2 hb6))
   have hmw := (HJM.out _ _ HJ2.out).1; have hBw : B ≤ wr.heap.size := (by have := hmw.lm; have := hmw.bm.lt; omega); have hln := LN.out; have hmn := MOw.fresh (hmw.ext X1.out) NB.out HO.out hBw (Nat.le_trans hBw hln) HP.out; have hlu : wr.heap.size ≤ u2 := (HO.out.lt u2 rfl).1; have hact := act_any ((k:Int) + 1) (u:Int) hmn HL.out HJJ.out (by unfold I64; omega); obtain ⟨er, her⟩ : ∃ x, actErr p t ((k:Int) + 1) u = x := ⟨_, rfl⟩; unfold ActPost at hact; rw [her] at hact; have hj1 : ∀ w7, Only (fun b => b = nb ∨ b = u2) w6 w7 → Ext wr w7 := fun w7 ho => X1.out.then_only ho (fun b e => by rcases e with e | e <;> omega); have hkc : ((k + 1 : Nat) : Int) = (k:Int) + 1 := (by omega); clear hmw hmn hBw hln hlu; have HACT := Hd hact; have HJ1 := Hd hj1; clear hact hj1
   by_cases he0 : er = 0
   {
   subst he0; have hadd : aU p t k (u + 1) = aU p t k u ++ [((k:Int) + 1, u)] := aU_yes her; have HADD := Hd hadd; have HER := Hd her; clear hadd her; clear hkc; refine (wpIn_wide (n := n)).1 ?_
   gi_wp2_with (
    refine ⟨trivial, ?_⟩
    gi_at_call 40
    refine (callsIn_wide.2 HACT.out).mono ?_; rintro e w7 ⟨rfl, hm7, ho7⟩; have hx7 := HJ1.out _ ho7; have hlive : LiveY B pb p t vj ⟨(k:Int) + 1, u, nb, u2, c2, actD p t ((k:Int) + 1) u⟩ w7 := ⟨hm7, HER.out, rfl, ⟨by dsimp only; omega, by dsimp only; omega⟩, hlt2⟩; have hab7 := AB.out.only ho7 (fun h => h.elim (fun e => HNA.out e.symm) (fun e => HUA.out e.symm)); obtain ⟨fn, tmps, assign, body, hy, hR⟩ := HY.out _ ⟨(k:Int) + 1, u, nb, u2, c2, actD p t ((k:Int) + 1) u⟩ w7 (HXJ.out _ _ _ HJ2.out hx7) hlive; unfold YA.args at hy; dsimp only at hy; clear da; have da := hab7.cell; have HYR := Hd hR; clear hR
    clear hm7 ho7 hx7 hlive hab7)
   refine HYR.out.mono ?_; rintro e w8 (⟨rfl, hj8⟩ | ⟨rfl, hj8⟩)
   {
   rw [← HADD.out] at hj8; have HJ8 := Hd hj8; clear hj8
   gi_wp2
   go_wp2
   go_roundw
   case rel => exact ⟨u + 1, by omega, by go_num, HJ8⟩
   case measure => simp [intOf] <;> omega
   }
   {
   have hjz := hj8; have HJ8 := Hd hjz; clear hjz
   gi_wp2
   go_wp2; refine bodyPost_ret (v := .tuple #[]) (by simp [results, Tryz.results77, go_sem]) rfl ?_; exact ⟨⟨_, rfl⟩, .inr HJ8.out⟩
   }
   }
   {
   have e0 : (er == 0) = false := (by simpa using he0); have hno : aU p t k (u + 1) = aU p t k u := aU_no (by rw [her]; exact he0); have HNO := Hd hno; clear hno; clear hkc her
   go_wp2_with (
    go_at_call 40; refine HACT.out.mono ?_; rintro e w7 ⟨rfl, hm7, ho7⟩; have hx7 := HJ1.out _ ho7; have hj7 := HXJ.out _ _ _ HJ2.out hx7; clear hm7 ho7 hx7 da; have HJ7 := Hd hj7
    clear hj7)
   go_roundw
   case rel => exact ⟨u + 1, by omega, by go_num, by rw [HNO.out]; exact HJ7⟩
   case measure => simp [intOf] <;> omega
   }
   }
   {
   have i3 : decide ((u:Int) < (t.units.length:Int)) = false := decide_eq_false (by omega); obtain rfl : u = t.units.length := (by omega); have hj := HJ2.out; rw [aK_succ] at hj; have HJ3 := Hd hj; clear hj; go_wp2
   go_roundw
   case rel => exact ⟨k + 1, by omega, by go_num, HJ3⟩
   case measure => simp [intOf] <;> omega
   }
  }
  { have i1 : decide ((k:Int) + 1 ≤ 12) = false := decide_eq_false (by omega); obtain rfl : k = 12 := (by omega); have hj := HJ.out; rw [aK_end] at hj; have HJ3 := Hd hj; clear hj; go_wp2; refine Great.bodyPost_end0 rfl rfl ?_; exact ⟨⟨_, rfl⟩, .inl HJ3.out⟩ }
end Go.Proofs.YtojobdffnnibaaaGreat
namespace Go.Proofs.YtojobdffnnibaaaGreat
open Go.RowKit
set_option linter.unusedVariables false
set_option linter.unusedSimpArgs false
theorem wpList_makeN {P : Program} {w : World} {ops : Array Oper} {rest : List Oper} {o : Oper} {a : Act} {Q : Exit → Act → World → Prop} {t e : TypeId} {z : Value} {size bytes : Nat} (T : SliceT P t e z size bytes) (hgd : o.guard = none) {x y : Operand} (ho : o.op = .makeSlice t x y) {n : Nat}
 (hx : a.eval x = .int .i64 n) (hy : a.eval y = .int .i64 n) (hN : bytes * n ≤ 140737488355328)
 (h : ∀ w1, w1.ownsRow w.heap.size e size (.slice (some ⟨w.heap.size, 0, none⟩) n n) n (madeCells z.cells (n * size)).toList → Ext w w1 → wpList P ops Q rest (a.put o.dst (.slice (some ⟨w.heap.size, 0, none⟩) n n)) w1) : wpList P ops Q (o :: rest) a w := by
 obtain ⟨i, hi, hp⟩ := Option.map_eq_some_iff.1 T.info; simp only [Prod.mk.injEq] at hp; obtain ⟨hz, hsz, hby⟩ := hp
 have hm : n ≤ maxLen := by
  have := Nat.le_mul_of_pos_left n T.byt; unfold maxLen; omega
 exact wpList_make_full w hgd x y t ho w.heap.size e i z size T.ht hi hz hsz .i64 .i64 n n n hx hy rfl rfl (by rw [hby]; omega) hm (Nat.le_refl _) fun w1 h1 hg =>
  h w1 h1 (Ext.only (only_grown (v := .slice none 0 0) hg) (fun b hb => by cases hb))
/-- The beginning of a press. -/
def beginD (p : PressD) : StD := ⟨0, false, List.replicate p.jam.length ⟨false, false, false, false, 0⟩, 0⟩
def BeginPost (w : World) (p : PressD) (e : Ending) (w' : World) : Prop :=
 (pErr p ≠ 0 ∧ e = .returned (.tuple #[sZ, .int .i64 (pErr p)]) ∧ Ext w w') ∨
 (pErr p = 0 ∧ ∃ vu, e = .returned (.tuple #[sV vu (beginD p), .int .i64 0]) ∧ w'.ownsRow w.heap.size 82 5 vu p.jam.length (uL (beginD p).units) ∧ Ext w w')
theorem made_units (n : Nat) (h : 1 ≤ n ∧ n ≤ 3) : (madeCells #[.bool false, .bool false, .bool false, .bool false, .int .i64 0] (n * 5)).toList = uL (List.replicate n ⟨false, false, false, false, 0⟩) := by
 have : n = 1 ∨ n = 2 ∨ n = 3 := (by omega); clear h
 rcases this with rfl | rfl | rfl
 · have : (madeCells #[.bool false, .bool false, .bool false, .bool false, .int .i64 0] (1 * 5)).toList = uL (List.replicate 1 ⟨false, false, false, false, 0⟩) := by kernel_rfl
   exact this
 · have : (madeCells #[.bool false, .bool false, .bool false, .bool false, .int .i64 0] (2 * 5)).toList = uL (List.replicate 2 ⟨false, false, false, false, 0⟩) := by kernel_rfl
   exact this
 · have : (madeCells #[.bool false, .bool false, .bool false, .bool false, .int .i64 0] (3 * 5)).toList = uL (List.replicate 3 ⟨false, false, false, false, 0⟩) := by kernel_rfl
   exact this
set_option maxRecDepth 100000 in
set_option maxHeartbeats 4000000 in
theorem begin_any (p : PressD) (vj : Value) (w : World) (hj : Truths w vj p.jam) :
 Calls Tryz.prog 26 #[pV vj p] w (BeginPost w p) := by
 have hck := fun W (k : Ext w W) => check_any p vj W (Sl.ext hj k); obtain ⟨_, aj, cj, hvj, _⟩ := hj; rw [List.length_map] at hvj; subst hvj; unfold pV at *; obtain ⟨e1, he1⟩ : ∃ e, pErr p = e := ⟨_, rfl⟩; rw [he1] at hck; have HCK := Hd hck; have HE1 := Hd he1; clear hck he1
 go_enter Tryz.func26, Tryz.ntmps26
 go_upto_region 2 with (first
  | (with_reducible refine wpList_boxA (t := 34) (cs := #[.slice aj p.jam.length cj, .int .i64 p.warm, .int .i64 p.tail, .int .i64 p.dirt]) rfl rfl rfl ?_
     rintro xb w1 hx1 hx2 hx3; have PB := Hd hx1; have X1 := Hd hx2; clear hx1 hx2
     clear hx3)
  | (with_reducible refine wpList_allocA (t := 38) rfl rfl Tryz.zeroValue38 ?_
     rintro rb w2 hy1 hy2 hy3; have pb2 := PB.out.ext hy2; have x2 := X1.out.tr hy2; have l2 : w.heap.size ≤ rb := Nat.le_trans X1.out.size hy3; have c2 := pb2.cell; clear PB X1; have RB := Hd hy1; have X1 := Hd x2; have LR := Hd l2; have PB := Hd pb2; clear hy1 x2 l2 pb2
     clear hy3 hy2)
  | (have hgd := HCK.out
     go_at_call 55; refine (hgd _ X1.out).mono ?_; rintro e w3 ⟨rfl, hx3⟩; have x2 := X1.out.tr hx3; have rb2 := RB.out.ext hx3; have pb2 := PB.out.ext hx3; clear c2 RB X1 PB hgd hx3 HCK; have c2 := pb2.cell; have X1 := Hd x2; have RB := Hd rb2; have PB := Hd pb2
     clear x2 rb2 pb2))
 by_cases h1 : e1 = 0
 {
 subst h1; have hlen := pErr_len HE1.out; have hmk := made_units p.jam.length hlen; have lx3 := X1.out.size; have HMK := Hd hmk; have LX3 := Hd lx3; clear hmk lx3
 go_wp2_with (first
  | (refine wpList_makeN (n := p.jam.length) tUnits rfl rfl rfl rfl ?_ ?_
     omega; rintro w4 hown hx4; have x2 := X1.out.tr hx4; have rb2 := RB.out.ext hx4; have OW := Hd hown; have X2 := Hd x2; have RB2 := Hd rb2
     clear hown x2 rb2)
  | (with_reducible refine wpList_storeK (ty := 38) (cells := #[.int .i64 0, .bool false, .slice (some ⟨w3.heap.size, 0, none⟩) p.jam.length p.jam.length, .int .i64 0]) rfl rfl RB2.out ?_ ?_ ?_ ?_ ?_ ?_
     rfl; rfl; kernel_rfl; rfl; simp [Value.oneCell']; rintro w7 hb7 ho7; have k0 := hb7.cell; have x2 := X2.out.then_only ho7 (fun k (e : k = rb) => by rw [e]; exact LR.out); have hlr := RB.out.lt; have how := owns_only OW.out ho7 (fun b hb (e : b = rb) => Nat.ne_of_lt hlr ((Option.some.inj hb).trans e).symm); clear X2 RB2 OW ho7 hb7; have X1 := Hd x2; have OW := Hd how
     clear x2 how))
 refine bodyPost_ret (v := .tuple #[sV (.slice (some ⟨w3.heap.size, 0, none⟩) p.jam.length p.jam.length) (beginD p), .int .i64 0]) (by simp [results, Tryz.results26, go_sem, k0, sV, beginD]) rfl ?_; exact .inr ⟨HE1.out, _, rfl, owns_weak (by unfold beginD; rw [← HMK.out]; exact OW.out) LX3.out, X1.out⟩
 }
 {
 have f1 : (e1 != 0) = true := (by simp [h1]); have h1' := h1; have H1 := Hd h1; clear h1
 go_wp2_with (
  (with_reducible refine wpList_storeK (ty := 38) (cells := #[.int .i64 0, .bool false, .slice none 0 0, .int .i64 0]) rfl rfl RB.out ?_ ?_ ?_ ?_ ?_ ?_); rfl; rfl; kernel_rfl; rfl; simp [Value.oneCell']; rintro w7 hb7 ho7; have k0 := hb7.cell; have x2 := X1.out.then_only ho7 (fun k (e : k = rb) => by rw [e]; exact LR.out); clear X1 RB ho7 hb7; have X1 := Hd x2
  clear x2)
 refine bodyPost_ret (v := .tuple #[sZ, .int .i64 e1]) (by simp [results, Tryz.results26, go_sem, k0, sZ]) rfl ?_; exact .inl ⟨by rw [HE1.out]; exact h1', by rw [HE1.out], X1.out⟩
 }
end Go.Proofs.YtojobdffnnibaaaGreat
namespace Go.Proofs.YtojobdffnnibaaaGreat
open Go.RowKit
set_option linter.unusedVariables false
set_option linter.unusedSimpArgs false
theorem uFul (u : UnitD) (b : Bool) (w : World) : Calls Tryz.prog 72 #[uV u, .bool b] w fun e w' => e = .returned (.bool (u.pr == b)) ∧ Ext w w' := by
 obtain ⟨uo, ut, uc, up, ui⟩ := u; unfold uV; dsimp only
 go_enter Tryz.func72, Tryz.ntmps72
 go_wp2_with (
  (with_reducible refine wpList_boxA (t := 82) (cs := #[.bool uo, .bool ut, .bool uc, .bool up, .int .i64 ui]) rfl rfl rfl ?_); rintro xb w1 hx1 hx2 hx3; have c1 := hx1.cell; have X1 := Hd hx2; clear hx2
  clear hx3 hx1)
 go_ret; exact ⟨rfl, X1.out⟩
theorem pr_step (us : List UnitD) (bs : List Bool) (k : Nat) (hk : k < us.length) (hb : k < bs.length) (h : (us.take k).map (·.pr) = bs.take k) (hp : us[k].pr = bs[k]) : (us.take (k + 1)).map (·.pr) = bs.take (k + 1) := by
 rw [List.take_succ_eq_append_getElem hk, List.take_succ_eq_append_getElem hb, List.map_append, h, List.map_singleton, hp]
theorem pr_bad (us : List UnitD) (bs : List Bool) (k : Nat) (hk : k < us.length) (hb : k < bs.length) (hp : us[k].pr ≠ bs[k]) : (us.map (·.pr) == bs) = false := by
 rw [beq_eq_false_iff_ne]; intro h; subst h; simp at hp
set_option maxRecDepth 100000 in
set_option maxHeartbeats 2000000 in
theorem equalFunc_any (us : List UnitD) (bs : List Bool) (va vb : Value) (w : World) (ha : UnIn w va us) (hb : Truths w vb bs) :
 Calls Tryz.prog 71 #[va, vb, .func (.func 72) #[] #[]] w fun e w' => e = .returned (.bool (us.map (·.pr) == bs)) ∧ Ext w w' := by
 have hm1 := ha.1; have hm2 := hb.1; rw [List.length_map] at hm2; obtain ⟨a, c, rfl, Ha⟩ := ha.form; obtain ⟨_, a2, c2, hvb, _, hcb⟩ := hb; rw [List.length_map] at hvb hcb; subst hvb; clear ha; have HCB := Hd hcb; clear hcb
 go_enter Tryz.func71, Tryz.ntmps71
 by_cases hl : us.length = bs.length
 {
 have e0 : decide ((us.length:Int) = (bs.length:Int)) = true := decide_eq_true (by omega); have e1 : ((us.length:Int) == (bs.length:Int)) = true := (by simp [hl]); have e2 : ((us.length:Int) != (bs.length:Int)) = false := (by simp [hl]); have HL := Hd hl; clear hl
 go_upto_region 4 with (fail)
 go_loopw [17] (fun t wr => ∃ k : Nat, k ≤ us.length ∧ t = .int .i64 k ∧ Hid ((us.take k).map (·.pr) = bs.take k) ∧ Hid (Ext w wr)) (fun t _ => us.length - (intOf t).toNat)
 case atStart =>
  have h00 : (us.take 0).map (·.pr) = bs.take 0 := (by simp); exact ⟨0, Nat.zero_le _, rfl, h00, Below.refl _ _⟩
 case round =>
  obtain ⟨k, hk, rfl, HR, HW⟩ := hrel
  by_cases hlt : k < us.length
  {
  obtain ⟨b1, o1, rfl, hc1⟩ := Ha.out.cells (by omega); obtain ⟨b2, o2, rfl, hc2⟩ := HCB.out (by have := HL.out; omega); obtain ⟨d0, d1, d2, d3, d4⟩ := hc1 k hlt; have hkb : k < bs.length := (by rw [← HL.out]; exact hlt); have d5 := hc2 k (.bool bs[k]) (by simp [hkb]); have hst := pr_step us bs k hlt hkb HR.out; have hbd := pr_bad us bs k hlt hkb; obtain ⟨u, hu⟩ : ∃ u, us[k] = u := ⟨_, rfl⟩; obtain ⟨bv, hbv⟩ : ∃ b, bs[k] = b := ⟨_, rfl⟩; rw [hu] at d0 d1 d2 d3 d4 hst hbd; rw [hbv] at d5 hst hbd; clear hu hbv; have hu1 := fun W => uFul u bv W; obtain ⟨uo, ut, uc, up, ui⟩ := u; unfold uV at hu1; dsimp only at *; obtain ⟨q, hq⟩ : ∃ q, (up == bv) = q := ⟨_, rfl⟩; have hst2 : q = true → _ := fun e => hst (by simpa [e] using hq); have hbd2 : q = false → _ := fun e => hbd (by simpa [e] using hq); rw [hq] at hu1; clear hq hst hbd; have HU := fun W => Hd (hu1 W); clear hu1; have c0 := HW.out.cellSome d0; have c1 := HW.out.cellSome d1; have c2 := HW.out.cellSome d2; have c3 := HW.out.cellSome d3; have c4 := HW.out.cellSome d4; have c5 := HW.out.cellSome d5; clear hc1 hc2 d0 d1 d2 d3 d4; have i1 : (0:Int) ≤ (k:Int) := (by omega); have i2 : (k:Int) < (us.length:Int) := (by omega); have i3 : (k:Int) < (bs.length:Int) := (by omega); have ST := Hd hst2; have BD := Hd hbd2; have D5 := Hd d5; clear hst2 hbd2 d5; clear e0 e1 e2
  cases q
  {
  skip
  go_wp2_with (first
   | (with_reducible refine wpList_allocA (t := 82) rfl rfl Tryz.zeroValue82 ?_
      rintro zb w1 hx1 hx2 hx3; have x2 := HW.out.tr hx2; have lz : w.heap.size ≤ zb := Nat.le_trans HW.out.size hx3; have f0 := hx2.cellSome c0; have f1 := hx2.cellSome c1; have f2 := hx2.cellSome c2; have f3 := hx2.cellSome c3; have f4 := hx2.cellSome c4; clear c0 c1 c2 c3 c4 c5 hx2 hx3; have ZB := Hd hx1; have X1 := Hd x2; have LZ := Hd lz
      clear hx1 x2 lz)
   | (with_reducible refine wpList_storeK (ty := 82) (cells := #[.bool uo, .bool ut, .bool uc, .bool up, .int .i64 ui]) rfl rfl ZB.out ?_ ?_ ?_ ?_ ?_ ?_
      rfl; rfl; kernel_rfl; rfl; simp [Value.oneCell']; rintro w2 hb2 ho2; have x2 := X1.out.then_only ho2 (fun b (e : b = zb) => by rw [e]; exact LZ.out); have c5 := x2.cellSome D5.out; have cz := hb2.cell; clear X1 ZB f0 f1 f2 f3 f4 ho2; have X1 := Hd x2; have ZB := Hd hb2
      clear x2 hb2)
   | (refine (HU _).out.mono ?_
      rintro e w3 ⟨rfl, hx3⟩; have x3 := X1.out.tr hx3; clear X1 hx3 cz c5; have X1 := Hd x3
      clear x3))
  go_ret; exact ⟨ret_bool (by rw [BD.out (by first | rfl | trivial)]), X1.out⟩
  }
  {
  skip
  go_wp2_with (first
   | (with_reducible refine wpList_allocA (t := 82) rfl rfl Tryz.zeroValue82 ?_
      rintro zb w1 hx1 hx2 hx3; have x2 := HW.out.tr hx2; have lz : w.heap.size ≤ zb := Nat.le_trans HW.out.size hx3; have f0 := hx2.cellSome c0; have f1 := hx2.cellSome c1; have f2 := hx2.cellSome c2; have f3 := hx2.cellSome c3; have f4 := hx2.cellSome c4; clear c0 c1 c2 c3 c4 c5 hx2 hx3; have ZB := Hd hx1; have X1 := Hd x2; have LZ := Hd lz
      clear hx1 x2 lz)
   | (with_reducible refine wpList_storeK (ty := 82) (cells := #[.bool uo, .bool ut, .bool uc, .bool up, .int .i64 ui]) rfl rfl ZB.out ?_ ?_ ?_ ?_ ?_ ?_
      rfl; rfl; kernel_rfl; rfl; simp [Value.oneCell']; rintro w2 hb2 ho2; have x2 := X1.out.then_only ho2 (fun b (e : b = zb) => by rw [e]; exact LZ.out); have c5 := x2.cellSome D5.out; have cz := hb2.cell; clear X1 ZB f0 f1 f2 f3 f4 ho2; have X1 := Hd x2; have ZB := Hd hb2
      clear x2 hb2)
   | (refine (HU _).out.mono ?_
      rintro e w3 ⟨rfl, hx3⟩; have x3 := X1.out.tr hx3; clear X1 hx3 cz c5; have X1 := Hd x3
      clear x3))
  go_roundw
  case rel => exact ⟨k + 1, by omega, by go_num, ST.out (by first | rfl | trivial), X1⟩
  case measure => simp [intOf] <;> omega
  }
  }
  {
  have i2 : decide ((k:Int) < (us.length:Int)) = false := decide_eq_false (by omega)
  have hend : (us.map (·.pr) == bs) = true := by
   have h1 := HR.out; rw [List.take_of_length_le (by omega), List.take_of_length_le (by have := HL.out; omega)] at h1
   simpa using h1
  have HEND := Hd hend; clear hend; go_wp2; go_ret; exact ⟨ret_bool (by rw [HEND.out]), HW.out⟩
  }
 }
 {
 have e0 : decide ((us.length:Int) = (bs.length:Int)) = false := decide_eq_false (by omega); have e1 : ((us.length:Int) == (bs.length:Int)) = false := (by simp; omega); have e2 : ((us.length:Int) != (bs.length:Int)) = true := by simp; omega
 have hend : (us.map (·.pr) == bs) = false := by
  rw [beq_eq_false_iff_ne]; intro h; apply hl; rw [← h, List.length_map]
 have HEND := Hd hend; clear hend; go_wp2; go_ret; exact ⟨ret_bool (by rw [HEND.out]), Below.refl _ _⟩
 }
/-- A goal as a value. -/
def gV (vg : Value) (g : GoalD) : Value := .agg #[.int .i64 g.drive, vg]
set_option maxRecDepth 100000 in
set_option maxHeartbeats 2000000 in
theorem fulfils_any {B : Nat} {mb pb ub c : Nat} {p : PressD} {s : StD} {vj vg : Value} {g : GoalD} (w : World) (h : MOw B w mb pb ub c p s vj) (hl : s.units.length ≤ 1000000) (hg : Truths w vg g.pressed) :
 Calls Tryz.prog 35 #[.pointer (some ⟨mb, 0, none⟩), gV vg g] w fun e w' => e = .returned (.bool (fulD g s)) ∧ Ext w w' := by
 have hun := h.un (Nat.le_trans hl (by decide)); have heq := fun W (k : Ext w W) => equalFunc_any s.units g.pressed _ vg W (hun.ext k) (Sl.ext hg k); obtain ⟨_, ag, cg, hvg, _⟩ := hg; obtain ⟨gd, gp⟩ := g; unfold gV; dsimp only at *; obtain ⟨em, hem⟩ : ∃ b, (s.units.map (·.pr) == gp) = b := ⟨_, rfl⟩; rw [hem] at heq; have hful : fulD ⟨gd, gp⟩ s = ((s.drive == gd) && em) := (by unfold fulD; rw [hem]); obtain ⟨dr, hdr⟩ : ∃ d, s.drive = d := ⟨_, rfl⟩; have hbm := h.bm; rw [hdr] at hbm hful; rw [List.length_map] at hvg; subst hvg; clear hem h hun; have HEQ := Hd heq; have HF := Hd hful; have BM := Hd hbm; clear heq hful hbm
 go_enter Tryz.func35, Tryz.ntmps35
 go_upto_region 1 with (
  (with_reducible refine wpList_boxA (t := 40) (cs := #[.int .i64 gd, .slice ag gp.length cg]) rfl rfl rfl ?_); rintro xb w1 hx1 hx2 hx3; have XB := Hd hx1; have X1 := Hd hx2; clear hx1 hx2
  clear hx3)
 by_cases hd : dr = gd
 {
 subst hd; have e0 : (dr == dr) = true := (by simp); have d := (BM.out.ext X1.out).cell; have dx := XB.out.cell; have hS : ∀ W, Ext w1 W → ((∀ j, W.cell? ⟨mb, j, none⟩ = (#[.pointer (some ⟨pb, 0, none⟩), .int .i64 dr, .bool s.folder, .slice (some ⟨ub, 0, none⟩) s.units.length c, .int .i64 s.fresh] : Array Value)[j]?) ∧ (∀ j, W.cell? ⟨xb, j, none⟩ = (#[.int .i64 dr, .slice ag gp.length cg] : Array Value)[j]?)) := fun W hx => ⟨(BM.out.ext (X1.out.tr hx)).cell, (XB.out.ext hx).cell⟩; clear d dx
 go_region_held3 (fun wx => (∀ j, wx.cell? ⟨mb, j, none⟩ = (#[.pointer (some ⟨pb, 0, none⟩), .int .i64 dr, .bool s.folder, .slice (some ⟨ub, 0, none⟩) s.units.length c, .int .i64 s.fresh] : Array Value)[j]?) ∧ (∀ j, wx.cell? ⟨xb, j, none⟩ = (#[.int .i64 dr, .slice ag gp.length cg] : Array Value)[j]?))
  ((first | exact hS _ (Below.refl _ w1).drew | exact hS _ XW.out))
  ((first
    | (have hgd := HEQ.out
       go_at_call 71; refine (hgd _ (X1.out.tr (Below.refl _ w1).drew)).mono ?_; rintro e w2 ⟨rfl, hx⟩; have xw : Ext w1 w2 := Ext.tr (Below.refl _ w1).drew hx; clear HEQ hgd; have XW := Hd xw
       clear xw)))
 go_wp2; go_ret; exact ⟨ret_bool (by rw [HF.out]; simp), X1.out.tr XW.out⟩
 }
 {
 have e0 : (dr == gd) = false := (by simpa using hd); have d := (BM.out.ext X1.out).cell; have dx := XB.out.cell
 go_quiet (fail)
 have xq := X1.out.tr (Ext.of_drewN w1 nq); generalize w1.drewN nq = wq at *; have XQ := Hd xq; clear xq; go_wp2; go_ret; exact ⟨ret_bool (by rw [HF.out, e0]; rfl), XQ.out⟩
 }
theorem find1_any {B : Nat} {mb pb ub c xb : Nat} {p : PressD} {s : StD} {vj vg : Value} {g : GoalD} (w : World) (h : MOw B w mb pb ub c p s vj) (hl : s.units.length ≤ 1000000) (hg : Truths w vg g.pressed) (hx : Blk w xb #[.int .i64 g.drive, vg] 40) :
 Calls Tryz.prog 34 #[.pointer (some ⟨mb, 0, none⟩), .pointer (some ⟨xb, 0, none⟩)] w fun e w' => e = .returned (.bool (fulD g s)) ∧ Ext w w' := by
 have hc := fulfils_any w h hl hg; obtain ⟨_, ag, cg, hvg, _⟩ := hg; rw [List.length_map] at hvg; subst hvg; unfold gV at hc; have d := hx.cell; have HC := Hd hc; clear hc; clear h hx
 go_enter Tryz.func34, Tryz.ntmps34
 go_wp2_with (
  go_at_call 35; refine HC.out.mono ?_; rintro e w2 ⟨rfl, hx⟩; clear d; have XW := Hd hx
  clear hx)
 go_ret; exact ⟨rfl, XW.out⟩
set_option maxRecDepth 100000 in
set_option maxHeartbeats 2000000 in
theorem aimed_any {B : Nat} {mb pb ub c : Nat} {p : PressD} {s : StD} {vj vg : Value} {g : GoalD} (w : World) (h : MOw B w mb pb ub c p s vj) (hl : s.units.length ≤ 1000000) (hg : Truths w vg g.pressed) :
 Calls Tryz.prog 32 #[.pointer (some ⟨mb, 0, none⟩), gV vg g] w fun e w' => e = .returned (.int .i64 (if aimedD s g then 0 else 1)) ∧ Ext w w' := by
 obtain ⟨_, ag, cg, hvg, _⟩ := hg; rw [List.length_map] at hvg; subst hvg; obtain ⟨gd, gp⟩ := g; unfold gV; dsimp only at *; obtain ⟨b1, hb1⟩ : ∃ b, inB gd 0 2 = b := ⟨_, rfl⟩; have hai : aimedD s ⟨gd, gp⟩ = ((gp.length == s.units.length) && b1) := (by rw [← hb1]; rfl); obtain ⟨L, hL⟩ : ∃ L, s.units.length = L := ⟨_, rfl⟩; have hbm := h.bm; rw [hL] at hbm hai hl; clear h hL
 have hin : ∀ (W : World), Calls Tryz.prog 66 #[.int .i64 gd, .int .i64 0, .int .i64 2] W fun e w' => e = .returned (.bool b1) ∧ w' = W := fun W =>
  (in_any gd 0 2 W).mono fun e w' ⟨a, b⟩ => ⟨by rw [a, hb1], b.symm⟩
 obtain ⟨E, hE⟩ : ∃ E, (if aimedD s ⟨gd, gp⟩ then (0:Int) else 1) = E := ⟨_, rfl⟩; rw [hE]; rw [hai] at hE; have HIN := Hd hin; have HA := Hd hE; have BM := Hd hbm; clear hin hE hbm; clear hai; clear hb1
 go_enter Tryz.func32, Tryz.ntmps32
 go_upto_region 1 with (
  (with_reducible refine wpList_boxA (t := 40) (cs := #[.int .i64 gd, .slice ag gp.length cg]) rfl rfl rfl ?_); rintro xb w1 hx1 hx2 hx3; have XB := Hd hx1; have X1 := Hd hx2; clear hx1 hx2
  clear hx3)
 have d := (BM.out.ext X1.out).cell; have dx := XB.out.cell
 by_cases hd : gp.length = L
 {
 have e0 : decide ((gp.length:Int) = (L:Int)) = true := decide_eq_true (by omega); have e1 : ((gp.length:Int) == (L:Int)) = true := (by simp [hd]); have e2 : ((gp.length:Int) != (L:Int)) = false := (by simp [hd]); have e3 : (if b1 then (0:Int) else 1) = E := (by rw [← HA.out, hd]; simp); have HE := Hd e3; clear e3; clear hd
 go_quiet ((go_at_call 66; exact Calls.quiet_of_same (HIN.out _)))
 have xq := X1.out.tr (Ext.of_drewN w1 nq); generalize w1.drewN nq = wq at *; have XQ := Hd xq; clear xq
 cases b1
 all_goals
  go_wp2; go_ret; exact ⟨ret_int HE.out, XQ.out⟩
 }
 {
 have e0 : decide ((gp.length:Int) = (L:Int)) = false := decide_eq_false (by omega); have e1 : ((gp.length:Int) == (L:Int)) = false := (by simp; omega); have e2 : ((gp.length:Int) != (L:Int)) = true := by simp; omega
 have e3 : (1:Int) = E := by
  have : (gp.length == L) = false := (by simpa using hd); rw [← HA.out, this]; rfl
 have HE := Hd e3; clear e3; clear hd
 go_quiet (fail)
 have xq := X1.out.tr (Ext.of_drewN w1 nq); generalize w1.drewN nq = wq at *; have XQ := Hd xq; clear xq; go_wp2; go_ret; exact ⟨ret_int HE.out, XQ.out⟩
 }
end Go.Proofs.YtojobdffnnibaaaGreat
namespace Go.Proofs.YtojobdffnnibaaaGreat
open Go.RowKit
set_option linter.unusedVariables false
set_option linter.unusedSimpArgs false
set_option maxRecDepth 100000 in
set_option maxHeartbeats 2000000 in
theorem goal_any (g : GoalD) (vg : Value) (w : World) (hg : Truths w vg g.pressed) (hl : g.pressed.length ≤ 140737488355328) :
 Calls Tryz.prog 9 #[gV vg g] w fun e w' => ∃ v, e = .returned (gV v g) ∧ Ext w w' ∧ w'.ownsRow w.heap.size 4 1 v g.pressed.length (g.pressed.map .bool) := by
 have hct := fun w1 (k : Ext w w1) => copyTruths_any g.pressed vg w1 (Sl.ext hg k) hl; obtain ⟨_, aj, cj, rfl, _⟩ := hg; rw [List.length_map] at *; unfold gV; have HCT := Hd hct; clear hct
 go_enter Tryz.func9, Tryz.ntmps9
 go_upto_region 1 with (first
  | (with_reducible refine wpList_boxA (t := 29) (cs := #[.int .i64 g.drive, .slice aj g.pressed.length cj]) rfl rfl rfl ?_
     rintro xb w1 hx1 hx2 hx3; have XB := Hd hx1; have X1 := Hd hx2; clear hx1 hx2
     clear hx3)
  | (with_reducible refine wpList_allocA (t := 40) rfl rfl Tryz.zeroValue40 ?_
     rintro rb w2 hy1 hy2 hy3; have x2 := X1.out.tr hy2; have xb2 := XB.out.ext hy2; have l2 : w.heap.size ≤ rb := Nat.le_trans X1.out.size hy3; clear XB X1; have XB := Hd xb2; have X1 := Hd x2; have RB := Hd hy1; have LR := Hd l2; clear xb2 x2 hy1 l2
     clear hy3 hy2))
 have hxd : Ext w2 w2.drew := (Below.refl _ w2).drew; have xb2 := XB.out.ext hxd; have rb2 := RB.out.ext hxd; have x2 := X1.out.tr hxd; clear XB RB X1; refine wp_region_K (fun wx => ∀ i, wx.cell? ⟨xb, i, none⟩ = (#[.int .i64 g.drive, .slice aj g.pressed.length cj] : Array Value)[i]?) 6 (by kernel_rfl) xb2.cell (fun kh => ?_); generalize w2.drew = wA at *; have XB := Hd xb2; have RB := Hd rb2; have X1 := Hd x2; clear xb2 rb2 x2; clear hxd; refine kX 0 kh ?_; simp only [kS]; refine kX 1 kh ?_; simp only [kS]; refine kX 2 kh ?_; simp only [kS]; refine kX 3 kh ?_; simp only [kS]; refine rK [4] ?_; refine xK 4 (fun K hK => ?_) ?_
 {
 refine cK #[.slice aj g.pressed.length cj] Tryz.func30 (HCT.out _ X1.out) ?_; rintro e wy ⟨v, rfl, hx, ho⟩; refine ⟨_, rfl, ?_⟩; obtain ⟨a5, c5, rfl⟩ := row_form ho; have xb2 := XB.out.ext hx; have rb2 := RB.out.ext hx; have x2 := X1.out.tr hx; have ho2 := owns_weak ho X1.out.size
 have hnb : ∀ b, (Value.slice a5 g.pressed.length c5).ownBlock = some b → b ≠ rb := fun b hb e => by
  have h1 := (ho.lt b hb).1; have h2 := RB.out.lt; omega
 clear XB RB X1 hx ho; have XB := Hd xb2; have RB := Hd rb2; have X1 := Hd x2; have HO := Hd ho2; have HNB := Hd hnb; clear xb2 rb2 x2 ho2 hnb; refine kG hK XB.out.cell fun kh => ?_; (try simp only [kS]); refine kX 5 kh ?_; simp only [kS]; refine rK [6] ?_; refine xK 6 (fun K hK => ?_) ?_
 { refine sK #[.int .i64 g.drive, .slice a5 g.pressed.length c5] RB.out ?_; intro wz hb ho; have k0 := hb.cell; have x2 := X1.out.then_only ho (fun k (e : k = rb) => by rw [e]; exact LR.out); have ho2 := owns_only HO.out ho HNB.out; clear X1 HO hb ho; have X1 := Hd x2; have HO := Hd ho2; clear x2 ho2; refine kH hK rfl ?_; (try clear kh); (try simp only [kS]); refine dK ?_ _; go_wp2; refine bodyPost_ret (v := gV (.slice a5 g.pressed.length c5) g) (by simp [results, Tryz.results9, go_sem, k0, gV]) rfl ?_; exact ⟨_, rfl, X1.out, HO.out⟩ }
 exact nK
 }
 exact nK
end Go.Proofs.YtojobdffnnibaaaGreat
namespace Go.Proofs.YtojobdffnnibaaaGreat
open Go.RowKit
set_option linter.unusedVariables false
theorem key15 (b0 b1 b2 b3 b4 b5 b6 b7 b8 b9 b10 b11 b12 b13 b14 : Bool) : (keyOf Tryz.prog 105 (.agg #[.bool b0, .bool b1, .bool b2, .bool b3, .bool b4, .bool b5, .bool b6, .bool b7, .bool b8, .bool b9, .bool b10, .bool b11, .bool b12, .bool b13, .bool b14])).isSome = true := by kernel_rfl
theorem keySit (s : StD) : ∃ lit, keyOf Tryz.prog 105 (sitV s) = some lit := by
 obtain ⟨d0, d1, d2, d3, d4, d5, d6, d7, d8, d9, d10, d11, d12, d13, d14, hd⟩ := list15 (sitD s) (sitD_len s); unfold sitV; rw [hd]; exact Option.isSome_iff_exists.1 (key15 d0 d1 d2 d3 d4 d5 d6 d7 d8 d9 d10 d11 d12 d13 d14)
theorem sitV_inj {s t : StD} (h : sitV s = sitV t) : sitD s = sitD t := by
 unfold sitV at h
 have h2 : ((sitD s).map Value.bool) = ((sitD t).map Value.bool) := by
  have := congrArg (fun v => match v with | .agg cs => cs.toList | _ => []) h
  simpa using this
 exact (List.map_inj_right (fun a b e => by cases e; rfl)).1 h2
/-- Is a situation among those of the steps? -/
def knownD (l : List StepD) (s : StD) : Bool := l.any fun t => sitD t.at_ == sitD s
theorem known_iff (l : List StepD) (s : StD) : knownD l s = true ↔ ∃ t ∈ l, sitV t.at_ = sitV s := by
 unfold knownD; rw [List.any_eq_true]
 constructor
 { rintro ⟨t, ht, h⟩; have h : sitD t.at_ = sitD s := (by simpa using h); exact ⟨t, ht, by unfold sitV; rw [h]⟩ }
 · rintro ⟨t, ht, h⟩
   exact ⟨t, ht, by simpa using sitV_inj h⟩
/-- The map of what was seen. -/
def seenL (l : List StepD) : List (Value × Value) := l.map fun t => (sitV t.at_, .bool true)
theorem uBool : Tryz.prog.underlying 4 = some .bool := by kernel_rfl
theorem zBool (w : World) : (zeroValue 4).run Tryz.prog w = .ok (.bool false) w := by kernel_rfl
theorem seen_look {w : World} {b : Nat} {l : List StepD} (h : MapR Tryz.prog 105 w b (seenL l)) (s : StD) :
 (Instr.lookup 145 (.map (some b)) (sitV s) false).run Tryz.prog w = .ok (.bool (knownD l s)) w := by
 obtain ⟨lit, hlit⟩ := keySit s
 cases hk : knownD l s
 {
 have := h.miss kSit uSeen hlit (zBool w) (fun y hy e => by
  obtain ⟨t, ht, rfl⟩ := List.mem_map.1 hy; have := (known_iff l s).2 ⟨t, ht, e⟩
  rw [hk] at this; cases this) false
 exact this
 }
 {
 obtain ⟨t, ht, e⟩ := (known_iff l s).1 hk
 have := h.look kSit uSeen hlit (v := .bool true) (fun v' hv => by
  obtain ⟨t', _, e'⟩ := List.mem_map.1 hv
  exact (congrArg Prod.snd e').symm) ⟨.bool true, List.mem_map.2 ⟨t, ht, by rw [e]⟩⟩ false
 exact this
 }
end Go.Proofs.YtojobdffnnibaaaGreat