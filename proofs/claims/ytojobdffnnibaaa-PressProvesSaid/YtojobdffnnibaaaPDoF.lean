/- press.Do, press.Safe; against; Pick. -/
import Derived.Test.YtojobdffnnibaaaPBreak
import Derived.Test.YtojobdffnnibaaaPBegin
import Derived.Test.YtojobdffnnibaaaPlainGd
import Derived.Test.YtojobdffnnibaaaPPrint
namespace Go.Proofs.Ytojobdffnnibaaa
open Go.RowKit
set_option linter.unusedVariables false
set_option linter.unusedSimpArgs false

def pick (x n : Int) : Int := if n < 1 then 0 else x % n
theorem pick_pos (x n : Int) (h : 1 ≤ n) : 0 ≤ pick x n ∧ pick x n < n := by
  unfold pick; rw [if_neg (by omega)]
  exact ⟨Int.emod_nonneg _ (by omega), Int.emod_lt_of_pos _ (by omega)⟩
theorem tmod_facts (x n : Int) (h : 1 ≤ n) : -n < x.tmod n ∧ x.tmod n < n ∧ (x.tmod n < 0 → x % n = x.tmod n + n) ∧ (0 ≤ x.tmod n → x % n = x.tmod n) := by
  have h1 := Int.lt_tmod_of_pos x (show 0 < n by omega)
  have h2 := Int.tmod_lt_of_pos x (show 0 < n by omega)
  have h3 : x % n = x - n * (x / n) := Int.emod_def x n
  have h4 : x.tmod n = x - n * (x.tdiv n) := Int.tmod_def x n
  have h5 := Int.emod_nonneg x (show n ≠ 0 by omega)
  have h6 := Int.emod_lt_of_pos x (show 0 < n by omega)
  refine ⟨by omega, h2, fun hh => ?_, fun hh => ?_⟩
  · have : x % n = (x.tmod n + n) % n := by rw [h4]; simp [Int.sub_emod]
    rw [this, Int.emod_eq_of_lt (by omega) (by omega)]
  · have : x % n = (x.tmod n) % n := by rw [h4]; simp [Int.sub_emod]
    rw [this, Int.emod_eq_of_lt (by omega) (by omega)]
theorem pick_any (x n : Int) (w : World) (hx : I64 x) (hn : I64 n) :
    Calls Try.prog 17 #[.int .i64 x, .int .i64 n] w fun e w' => e = .returned (.int .i64 (pick x n)) ∧ w = w' := by
  obtain ⟨hx1, hx2⟩ := hx
  obtain ⟨hn1, hn2⟩ := hn
  by_cases h1 : n < 1
  · go_enter Try.func17, Try.ntmps17
    go_wp2
    go_ret; exact ⟨ret_int (by simp [pick, h1]), rfl⟩
  · obtain ⟨t1, t2, t3, t4⟩ := tmod_facts x n (by omega)
    have T3 := Lib.hid t3
    have T4 := Lib.hid t4
    clear t3 t4
    have hp : pick x n = x % n := by simp [pick, h1]
    have HP := Lib.hid hp
    clear hp
    go_enter Try.func17, Try.ntmps17
    go_wp2
    · go_ret; exact ⟨ret_int (by have := T3.out (by assumption); rw [HP.out, this]), rfl⟩
    · go_ret; exact ⟨ret_int (by have := T4.out (by assumption); rw [HP.out, this]), rfl⟩

/-- The state that comes with an error. -/
def zD : StD := ⟨0, false, [], 0⟩
theorem sZ_eq : sZ = sV (.slice none 0 0) zD := rfl
/-- The error of Do, and the state. -/
def doErr (p : PressD) (s : StD) (k x : Int) : Int := if stErr p s ≠ 0 then stErr p s else actErr p s k x
def doS (p : PressD) (s : StD) (k x : Int) : StD := if doErr p s k x = 0 then doD s k x.toNat else zD
/-- The towers of a state lie in a row of the call's own. -/
def OwU (w : World) (v : Value) (s : StD) : Prop := w.ownsRow 0 50 5 v s.units.length (uL s.units)
theorem OwU.ext {w w' : World} {v : Value} {s : StD} (h : OwU w v s) (k : Ext w w') : OwU w' v s := owns_ext h k
theorem OwU.un {w : World} {v : Value} {s : StD} (h : OwU w v s) (hl : s.units.length ≤ 1000000) : UnIn w v s.units := UnIn.of_owns h (by omega)
theorem OwU.nil (w : World) : OwU w (.slice none 0 0) zD := World.ownsRow_nil _ _ _ _
theorem OwU.form {w : World} {v : Value} {s : StD} (h : OwU w v s) : ∃ a c, v = .slice a s.units.length c := row_form h
def DoAns (w : World) (p : PressD) (s : StD) (k x : Int) (e : Ending) (w' : World) : Prop :=
  ∃ vu, e = .returned (.tuple #[sV vu (doS p s k x), .int .i64 (doErr p s k x)]) ∧ OwU w' vu (doS p s k x) ∧ Ext w w'
theorem DoAns.no {w w' : World} {p : PressD} {s : StD} {k x e1 : Int} (h : doErr p s k x = e1) (h0 : e1 ≠ 0) (h3 : Ext w w') : DoAns w p s k x (.returned (.tuple #[sZ, .int .i64 e1])) w' := by
  have h1 : doS p s k x = zD := by unfold doS; rw [if_neg (by rw [h]; exact h0)]
  exact ⟨.slice none 0 0, by rw [h1, h]; rfl, by rw [h1]; exact OwU.nil _, h3⟩

/-- The same, and the row is as new as the call. -/
def DoAnsF (w : World) (p : PressD) (s : StD) (k x : Int) (e : Ending) (w' : World) : Prop :=
  ∃ vu, e = .returned (.tuple #[sV vu (doS p s k x), .int .i64 (doErr p s k x)]) ∧ w'.ownsRow w.heap.size 50 5 vu (doS p s k x).units.length (uL (doS p s k x).units) ∧ Ext w w'
theorem DoAnsF.no {w w' : World} {p : PressD} {s : StD} {k x e1 : Int} (h : doErr p s k x = e1) (h0 : e1 ≠ 0) (h3 : Ext w w') : DoAnsF w p s k x (.returned (.tuple #[sZ, .int .i64 e1])) w' := by
  have h1 : doS p s k x = zD := by unfold doS; rw [if_neg (by rw [h]; exact h0)]
  exact ⟨.slice none 0 0, by rw [h1, h]; rfl, by rw [h1]; exact World.ownsRow_nil _ _ _ _, h3⟩

set_option maxRecDepth 100000 in
set_option maxHeartbeats 4000000 in
theorem do_own (p : PressD) (s : StD) (k x : Int) (vj vu : Value) (w : World) (hj : Truths w vj p.jam) (hu : UnIn w vu s.units) (hl : s.units.length ≤ 1000000) (hk : I64 k) :
    Calls Try.prog 22 #[pV vj p, sV vu s, .agg #[.int .i64 k, .int .i64 x]] w (DoAnsF w p s k x) := by
  have hst := fun w1 (k : Ext w w1) => start_any p s vj vu w1 (Sl.ext hj k) (hu.ext k) hl
  obtain ⟨a, c, rfl, Hu⟩ := hu.form
  obtain ⟨_, aj, cj, hvj, _⟩ := id hj
  rw [List.length_map] at hvj
  subst hvj
  have HK := Lib.hid hk
  clear hk
  clear hu hl Hu
  unfold pV sV at *
  obtain ⟨e1, he1⟩ : ∃ e, stErr p s = e := ⟨_, rfl⟩
  by_cases h1 : e1 = 0
  · subst h1
    have hs := fun w1 (k : Ext w w1) => (hst w1 k).mono fun e w' (h : StartPost w1 p s _ e w') => (h.resolve_left fun h => h.1 he1).2
    obtain ⟨hpe, hsh, hsf⟩ := stErr_ok he1
    have huj := shaped_len hsh
    have hul : s.units.length ≤ 3 := by rw [huj]; exact (pErr_len hpe).2
    have hde : doErr p s k x = actErr p s k x := by unfold doErr; rw [if_neg (by rw [he1]; simp)]
    obtain ⟨er, her⟩ : ∃ y, doErr p s k x = y := ⟨_, rfl⟩
    rw [her] at hde
    have hact := fun W mb pb ub c B vj (h : MOw B W mb pb ub c p s vj) => act_any k x h hul huj HK.out
    unfold ActPost at hact
    rw [← hde] at hact
    have hlen : (actD p s k x).units.length = s.units.length := by
      unfold actD
      split
      · unfold doD
        repeat' split
        all_goals (try rfl)
        dsimp only
        rw [List.length_set]
      · rfl
    have HS := Lib.hid hs
    have HUL := Lib.hid hul
    have HUJ := Lib.hid huj
    have HER := Lib.hid her
    have HACT := Lib.hid hact
    have HDE := Lib.hid hde
    have HLEN := Lib.hid hlen
    clear hs hul huj her hact hde hlen
    clear hst he1 hpe hsh hsf
    go_enter Try.func22, Try.ntmps22
    go_upto_region 1 with (first
      | (with_reducible refine wpList_boxA (t := 32) (cs := #[.slice aj p.jam.length cj, .int .i64 p.warm, .int .i64 p.tail, .int .i64 p.dirt]) rfl rfl rfl ?_
         rintro xb w1 hx1 hx2 hx3
         have PB := Lib.hid hx1
         have X1 := Lib.hid hx2
         clear hx1 hx2
         clear hx3)
      | (with_reducible refine wpList_boxA (t := 36) (cs := #[.int .i64 s.drive, .bool s.folder, .slice a s.units.length c, .int .i64 s.fresh]) rfl rfl rfl ?_
         rintro sb w2 hy1 hy2 hy3
         have pb2 := PB.out.ext hy2
         have x2 := X1.out.tr hy2
         clear PB X1
         have SB := Lib.hid hy1
         have PB := Lib.hid pb2
         have X1 := Lib.hid x2
         clear hy1 pb2 x2
         clear hy3 hy2)
      | (with_reducible refine wpList_boxA (t := 63) (cs := #[.int .i64 k, .int .i64 x]) rfl rfl rfl ?_
         rintro zb w2 hy1 hy2 hy3
         have pb2 := PB.out.ext hy2
         have sb2 := SB.out.ext hy2
         have x2 := X1.out.tr hy2
         clear PB X1 SB
         have SB := Lib.hid sb2
         have PB := Lib.hid pb2
         have X1 := Lib.hid x2
         have ZB := Lib.hid hy1
         clear sb2 pb2 x2 hy1
         clear hy3 hy2)
      | (with_reducible refine wpList_allocA (t := 36) rfl rfl Try.zeroValue36 ?_
         rintro rb w2 hy1 hy2 hy3
         have c2 := (PB.out.ext hy2).cell
         have c3 := (SB.out.ext hy2).cell
         have zb2 := ZB.out.ext hy2
         have x2 := X1.out.tr hy2
         have l2 : w.heap.size ≤ rb := Nat.le_trans X1.out.size hy3
         clear PB X1 SB ZB
         have RB := Lib.hid hy1
         have X1 := Lib.hid x2
         have LR := Lib.hid l2
         have ZB := Lib.hid zb2
         clear hy1 x2 l2 zb2
         clear hy3 hy2))
    go_upto_region 3 with (
        have hgd := HS.out
        go_at_call 43
        refine (hgd _ X1.out).mono ?_
        rintro e wB ⟨mb, pb, ub, c4, rfl, hmo, hx3⟩
        have rb2 := RB.out.ext hx3
        have zb2 := ZB.out.ext hx3
        have lb := RB.out.lt
        have lx := X1.out.size
        have x2 := X1.out.tr hx3
        have hmo2 := hmo
        clear c2 c3 RB X1 hgd hx3 HS hmo ZB
        have cz := zb2.cell
        have RB := Lib.hid rb2
        have X1 := Lib.hid x2
        have HM := Lib.hid hmo2
        have LB := Lib.hid lb
        have LX := Lib.hid lx
        clear rb2 x2 hmo2 lb lx)
    by_cases h2 : er = 0
    · subst h2
      have hac : actD p s k x = doD s k x.toNat := by unfold actD; rw [if_pos HDE.out.symm]
      have hds : doS p s k x = doD s k x.toNat := by unfold doS; rw [if_pos HER.out]
      go_upto_region 6 with (
         have hgd := HACT.out
         go_at_call 47
         refine (hgd _ _ _ _ _ _ _ HM.out).mono ?_
         rintro e w6 ⟨rfl, hm6, ho6⟩
         have x2 := X1.out.then_only ho6 (fun b e => by rcases e with e | e <;> (have := hm6.lm; have := hm6.lu; have := LX.out; omega))
         have rb2 := RB.out.only ho6 (fun e => by rcases e with e | e <;> (have := hm6.lm; have := hm6.lu; have := LB.out; omega))
         clear hgd HACT X1 RB HM cz ho6
         have X1 := Lib.hid x2
         have RB := Lib.hid rb2
         have HM := Lib.hid hm6
         clear x2 rb2 hm6)
      have hm7 := HM.out
      have hl7 := HLEN.out
      rw [hac] at hm7 hl7
      obtain ⟨S, hS⟩ : ∃ S, doD s k x.toNat = S := ⟨_, rfl⟩
      rw [hS] at hm7 hl7 hds
      have d := hm7.bm.cell
      rw [hl7] at d
      clear HM HLEN hac hS
      have HM7 := Lib.hid hm7
      have HL7 := Lib.hid hl7
      have HDS := Lib.hid hds
      clear hm7 hl7 hds
      go_wp2_with (
         with_reducible refine wpList_storeK (ty := 36) (cells := #[.int .i64 S.drive, .bool S.folder, .slice (some ⟨ub, 0, none⟩) s.units.length c4, .int .i64 S.fresh]) rfl rfl RB.out ?_ ?_ ?_ ?_ ?_ ?_
         · rfl
         · rfl
         · kernel_rfl
         · rfl
         · simp [Value.oneCell']
         rintro w7 hb7 ho7
         have k0 := hb7.cell
         have x2 := X1.out.then_only ho7 (fun k (e : k = rb) => by rw [e]; exact LR.out)
         have how := owns_only HM7.out.own ho7 (fun b hb (e : b = rb) => by have h1 := (HM7.out.own.lt b hb).1; have h2 := LB.out; omega)
         clear X1 RB ho7 hb7 HM7 d
         have X1 := Lib.hid x2
         have HOW := Lib.hid how
         clear x2 how)
      refine bodyPost_ret (v := .tuple #[sV (.slice (some ⟨ub, 0, none⟩) s.units.length c4) S, .int .i64 0]) (by simp [results, Try.results22, go_sem, k0, sV]) rfl ?_
      have h9 : w7.ownsRow w.heap.size 50 5 (.slice (some ⟨ub, 0, none⟩) S.units.length c4) S.units.length (uL S.units) := owns_weak HOW.out LX.out
      rw [HL7.out] at h9
      have h8 : w7.ownsRow w.heap.size 50 5 (.slice (some ⟨ub, 0, none⟩) s.units.length c4) S.units.length (uL S.units) := by rw [HL7.out]; exact h9
      exact ⟨_, by rw [HDS.out, HER.out], by rw [HDS.out]; exact h8, X1.out⟩
    · have f1 : (er != 0) = true := by simp [h2]
      have h2' := h2
      have H2 := Lib.hid h2'
      clear h2'
      go_wp2_with (first
        | (have hgd := HACT.out
           go_at_call 47
           refine (hgd _ _ _ _ _ _ _ HM.out).mono ?_
           rintro e w6 ⟨rfl, hm6, ho6⟩
           have x2 := X1.out.then_only ho6 (fun b e => by rcases e with e | e <;> (have := hm6.lm; have := hm6.lu; have := LX.out; omega))
           have rb2 := RB.out.only ho6 (fun e => by rcases e with e | e <;> (have := hm6.lm; have := hm6.lu; have := LB.out; omega))
           clear hgd HACT X1 RB HM cz ho6 hm6
           have X1 := Lib.hid x2
           have RB := Lib.hid rb2
           clear x2 rb2)
        | (with_reducible refine wpList_storeK (ty := 36) (cells := #[.int .i64 0, .bool false, .slice none 0 0, .int .i64 0]) rfl rfl RB.out ?_ ?_ ?_ ?_ ?_ ?_
           · rfl
           · rfl
           · kernel_rfl
           · rfl
           · simp [Value.oneCell']
           rintro w7 hb7 ho7
           have k0 := hb7.cell
           have x2 := X1.out.then_only ho7 (fun k (e : k = rb) => by rw [e]; exact LR.out)
           clear X1 RB ho7 hb7
           have X1 := Lib.hid x2
           clear x2))
      refine bodyPost_ret (v := .tuple #[sZ, .int .i64 er]) (by simp [results, Try.results22, go_sem, k0, sZ]) rfl ?_
      exact DoAnsF.no HER.out H2.out X1.out
  · have hpe : doErr p s k x = e1 := by unfold doErr; rw [he1, if_pos h1]
    have hs := fun w1 (k : Ext w w1) => (hst w1 k).mono fun e w' (h : StartPost w1 p s _ e w') => (h.resolve_right fun h => h1 (he1 ▸ h.1)).2
    rw [he1] at hs
    have f1 : (e1 != 0) = true := by simp [h1]
    have f2 : (e1 == 0) = false := by simp [h1]
    have HPE := Lib.hid hpe
    have H1 := Lib.hid h1
    have HS := Lib.hid hs
    clear hpe h1 hs
    clear he1 hst
    go_enter Try.func22, Try.ntmps22
    go_upto_region 1 with (first
      | (with_reducible refine wpList_boxA (t := 32) (cs := #[.slice aj p.jam.length cj, .int .i64 p.warm, .int .i64 p.tail, .int .i64 p.dirt]) rfl rfl rfl ?_
         rintro xb w1 hx1 hx2 hx3
         have PB := Lib.hid hx1
         have X1 := Lib.hid hx2
         clear hx1 hx2
         clear hx3)
      | (with_reducible refine wpList_boxA (t := 36) (cs := #[.int .i64 s.drive, .bool s.folder, .slice a s.units.length c, .int .i64 s.fresh]) rfl rfl rfl ?_
         rintro sb w2 hy1 hy2 hy3
         have pb2 := PB.out.ext hy2
         have x2 := X1.out.tr hy2
         clear PB X1
         have SB := Lib.hid hy1
         have PB := Lib.hid pb2
         have X1 := Lib.hid x2
         clear hy1 pb2 x2
         clear hy3 hy2)
      | (with_reducible refine wpList_boxA (t := 63) (cs := #[.int .i64 k, .int .i64 x]) rfl rfl rfl ?_
         rintro zb w2 hy1 hy2 hy3
         have pb2 := PB.out.ext hy2
         have sb2 := SB.out.ext hy2
         have x2 := X1.out.tr hy2
         clear PB X1 SB
         have SB := Lib.hid sb2
         have PB := Lib.hid pb2
         have X1 := Lib.hid x2
         have ZB := Lib.hid hy1
         clear sb2 pb2 x2 hy1
         clear hy3 hy2)
      | (with_reducible refine wpList_allocA (t := 36) rfl rfl Try.zeroValue36 ?_
         rintro rb w2 hy1 hy2 hy3
         have c2 := (PB.out.ext hy2).cell
         have c3 := (SB.out.ext hy2).cell
         have zb2 := ZB.out.ext hy2
         have x2 := X1.out.tr hy2
         have l2 : w.heap.size ≤ rb := Nat.le_trans X1.out.size hy3
         clear PB X1 SB ZB
         have RB := Lib.hid hy1
         have X1 := Lib.hid x2
         have LR := Lib.hid l2
         have ZB := Lib.hid zb2
         clear hy1 x2 l2 zb2
         clear hy3 hy2))
    go_wp2_with (first
      | (have hgd := HS.out
         go_at_call 43
         refine (hgd _ X1.out).mono ?_
         rintro e w3 ⟨rfl, hx3⟩
         have x2 := X1.out.tr hx3
         have rb2 := RB.out.ext hx3
         clear c2 c3 RB X1 hgd hx3 HS
         have X1 := Lib.hid x2
         have RB := Lib.hid rb2
         clear x2 rb2)
      | (with_reducible refine wpList_storeK (ty := 36) (cells := #[.int .i64 0, .bool false, .slice none 0 0, .int .i64 0]) rfl rfl RB.out ?_ ?_ ?_ ?_ ?_ ?_
         · rfl
         · rfl
         · kernel_rfl
         · rfl
         · simp [Value.oneCell']
         rintro w7 hb7 ho7
         have k0 := hb7.cell
         have x2 := X1.out.then_only ho7 (fun k (e : k = rb) => by rw [e]; exact LR.out)
         clear X1 RB ho7 hb7
         have X1 := Lib.hid x2
         clear x2))
    refine bodyPost_ret (v := .tuple #[sZ, .int .i64 e1]) (by simp [results, Try.results22, go_sem, k0, sZ]) rfl ?_
    exact DoAnsF.no HPE.out H1.out X1.out

theorem do_any (p : PressD) (s : StD) (k x : Int) (vj vu : Value) (w : World) (hj : Truths w vj p.jam) (hu : UnIn w vu s.units) (hl : s.units.length ≤ 1000000) (hk : I64 k) :
    Calls Try.prog 22 #[pV vj p, sV vu s, .agg #[.int .i64 k, .int .i64 x]] w (DoAns w p s k x) :=
  (do_own p s k x vj vu w hj hu hl hk).mono fun _ _ ⟨v, h1, h2, h3⟩ => ⟨v, h1, owns_weak h2 (Nat.zero_le _), h3⟩

/-- What Safe answers. -/
def safeE (p : PressD) (s : StD) : Int := if pErr p ≠ 0 then pErr p else if shapedD p s then 0 else 9
def safeB (p : PressD) (s : StD) : Bool := decide (safeE p s = 0) && safeD s
set_option maxRecDepth 100000 in
set_option maxHeartbeats 4000000 in
theorem safe_any' (p : PressD) (s : StD) (vj vu : Value) (w : World) (hj : Truths w vj p.jam) (hu : UnIn w vu s.units) :
    Calls Try.prog 23 #[pV vj p, sV vu s] w fun e w' => e = .returned (.tuple #[.bool (safeB p s), .int .i64 (safeE p s)]) ∧ Ext w w' := by
  have hck := fun W (k : Ext w W) => check_any p vj W (Sl.ext hj k)
  have hsh := fun W (k : Ext w W) mb pb (h : MSt W mb pb p s vj vu) => mShaped mb pb p s vj vu W h
  have hsf := fun W (k : Ext w W) mb pb (h : MSt W mb pb p s vj vu) => mSafe mb pb p s vj vu W h
  have hms := fun W (k : Ext w W) mb pb (h1 : Blk W mb #[.pointer (some ⟨pb, 0, none⟩), .int .i64 s.drive, .bool s.folder, vu, .int .i64 s.fresh] 104) (h2 : Blk W pb #[vj, .int .i64 p.warm, .int .i64 p.tail, .int .i64 p.dirt] 32) =>
    (⟨h1, h2, hu.ext k, Sl.ext hj k⟩ : MSt W mb pb p s vj vu)
  obtain ⟨a, c, rfl, Hu⟩ := hu.form
  obtain ⟨_, aj, cj, hvj, _⟩ := hj
  rw [List.length_map] at hvj
  subst hvj
  unfold pV sV at *
  obtain ⟨e1, he1⟩ : ∃ e, pErr p = e := ⟨_, rfl⟩
  obtain ⟨b1, hb1⟩ : ∃ b, shapedD p s = b := ⟨_, rfl⟩
  obtain ⟨b2, hb2⟩ : ∃ b, safeD s = b := ⟨_, rfl⟩
  rw [he1] at hck
  rw [hb1] at hsh
  rw [hb2] at hsf
  have hse : safeE p s = if e1 ≠ 0 then e1 else if b1 then 0 else 9 := by unfold safeE; rw [he1, hb1]
  have hsb : safeB p s = (decide (safeE p s = 0) && b2) := by unfold safeB; rw [hb2]
  obtain ⟨E, hE⟩ : ∃ E, safeE p s = E := ⟨_, rfl⟩
  rw [hE] at hse hsb
  obtain ⟨BB, hBB⟩ : ∃ B, safeB p s = B := ⟨_, rfl⟩
  rw [hBB] at hsb
  rw [hE, hBB]
  have HCK := Lib.hid hck
  have HSH := Lib.hid hsh
  have HSF := Lib.hid hsf
  have HMS := Lib.hid hms
  have HSE := Lib.hid hse
  have HSB := Lib.hid hsb
  clear hck hsh hsf hms hse hsb
  clear he1 hb1 hb2 hE hBB hu Hu
  go_enter Try.func23, Try.ntmps23
  go_upto_region 2 with (first
    | (with_reducible refine wpList_boxA (t := 32) (cs := #[.slice aj p.jam.length cj, .int .i64 p.warm, .int .i64 p.tail, .int .i64 p.dirt]) rfl rfl rfl ?_
       rintro pb w1 hx1 hx2 hx3
       have PB := Lib.hid hx1
       have X1 := Lib.hid hx2
       clear hx1 hx2
       clear hx3)
    | (with_reducible refine wpList_boxA (t := 36) (cs := #[.int .i64 s.drive, .bool s.folder, .slice a s.units.length c, .int .i64 s.fresh]) rfl rfl rfl ?_
       rintro sb w2 hy1 hy2 hy3
       have pb2 := PB.out.ext hy2
       have x2 := X1.out.tr hy2
       have c2 := pb2.cell
       clear PB X1
       have SB := Lib.hid hy1
       have PB := Lib.hid pb2
       have X1 := Lib.hid x2
       clear hy1 pb2 x2
       clear hy3 hy2)
    | (have hgd := HCK.out
       go_at_call 19
       refine (hgd _ X1.out).mono ?_
       rintro e w3 ⟨rfl, hx3⟩
       clear c2 HCK hgd
       replace SB := Lib.hid (SB.out.ext hx3)
       replace PB := Lib.hid (PB.out.ext hx3)
       have x2 := X1.out.tr hx3
       clear X1 hx3
       have c3 := SB.out.cell
       have X1 := Lib.hid x2
       clear x2))
  by_cases h1 : e1 = 0
  · subst h1
    go_upto_region 5 with (
      with_reducible refine wpList_boxA (t := 104) (cs := #[.pointer (some ⟨pb, 0, none⟩), .int .i64 s.drive, .bool s.folder, .slice a s.units.length c, .int .i64 s.fresh]) rfl rfl rfl ?_
      rintro mb w6 hx1 hx2 hx3
      have pb2 := PB.out.ext hx2
      have x2 := X1.out.tr hx2
      have hm := HMS.out _ x2 mb pb hx1 pb2
      clear c3 PB X1 SB hx1 hx3 hx2 pb2
      have X1 := Lib.hid x2
      have HM := Lib.hid hm
      clear x2 hm)
    cases b1
    · have h9 : E = 9 := by rw [HSE.out]; rfl
      have h8 : BB = false := by rw [HSB.out, h9]; rfl
      have H9 := Lib.hid h9
      have H8 := Lib.hid h8
      clear h9 h8
      go_wp2_with (
        have hgd := HSH.out
        go_at_call 48
        refine (hgd _ X1.out _ _ HM.out).mono ?_
        rintro e w7 ⟨rfl, hx7⟩
        have x2 := X1.out.tr hx7
        clear X1 hgd
        have X1 := Lib.hid x2
        clear x2)
      go_ret2
      exact ⟨by rw [H9.out, H8.out] <;> rfl, X1.out⟩
    · have h9 : E = 0 := by rw [HSE.out]; rfl
      have h8 : BB = b2 := by rw [HSB.out, h9]; simp
      have H9 := Lib.hid h9
      have H8 := Lib.hid h8
      clear h9 h8
      go_wp2_with (first
        | (have hgd := HSH.out
           go_at_call 48
           refine (hgd _ X1.out _ _ HM.out).mono ?_
           rintro e w7 ⟨rfl, hx7⟩
           have x2 := X1.out.tr hx7
           have hm := HM.out.ext hx7
           clear X1 hgd HSH HM hx7
           have X1 := Lib.hid x2
           have HM := Lib.hid hm
           clear x2 hm)
        | (have hgd := HSF.out
           go_at_call 49
           refine (hgd _ X1.out _ _ HM.out).mono ?_
           rintro e w8 ⟨rfl, hx8⟩
           have x2 := X1.out.tr hx8
           clear X1 hgd
           have X1 := Lib.hid x2
           clear x2))
      go_ret2
      exact ⟨by rw [H9.out, H8.out] <;> rfl, X1.out⟩
  · have f1 : (e1 != 0) = true := by simp [h1]
    have h9 : E = e1 := by rw [HSE.out, if_pos h1]
    have h8 : BB = false := by rw [HSB.out, h9]; simp [h1]
    have H9 := Lib.hid h9
    have H8 := Lib.hid h8
    clear h9 h8
    go_wp2
    go_ret2
    exact ⟨by rw [H9.out, H8.out] <;> rfl, X1.out⟩
end Go.Proofs.Ytojobdffnnibaaa
