/- Close of the reference. -/
import Derived.Test.YtekplfbfkfiabaaBkRefP
import Derived.Test.YtekplfbfkfiabaaPlainCs
import Derived.Test.YtekplfbfkfiabaaRfBal
import Derived.Deep.CutRange
namespace Go.Proofs.Ytekplfbfkfiabaa
open Go.RowKit Go.Shelf
set_option linter.unusedVariables false
set_option linter.unusedSimpArgs false
attribute [local go_sem] Oper.semAt_some

def RClosePost (w : World) (d : LedD) (va ve : Value) (day : Int) (cs : List Int) (e : Ending) (w' : World) : Prop :=
  Ext w w' ∧ ((closeErr d day cs ≠ 0 ∧ e = .returned (.tuple #[rLed d va ve, .slice none 0 0, .int .i64 (closeErr d day cs)])) ∨
    (closeErr d day cs = 0 ∧ ∃ ve' v, e = .returned (.tuple #[rLed { (closeF day d [] (closeP d cs)).1 with closed := day } va ve', v, .int .i64 0]) ∧ SigIn w' ve' (closeF day d [] (closeP d cs)).1.ents ∧ Ints w' v (closeF day d [] (closeP d cs)).2.1 ∧
      (0 < (closeF day d [] (closeP d cs)).1.ents.length → ∀ b, ve'.ownBlock = some b → (0 < d.ents.length ∧ ve.ownBlock = some b) ∨ w.heap.size ≤ b)))
theorem closeP_at (d : LedD) {cs : List Int} (hlen : cs.length = d.stk.length) {i : Nat} (hi : i < d.acc.length) (hs : d.acc[i].stock = true) :
    (stkN d.acc i).length < cs.length ∧ (closeP d cs)[(stkN d.acc i).length]? = some (i, gI cs (stkN d.acc i).length) := by
  have hk := stkN_at d.acc i (by rw [List.getD_eq_getElem?_getD, List.getElem?_eq_getElem hi]; exact hs) d.n hi
  have hk2 : d.stk[(stkN d.acc i).length]? = some i := hk
  have hkl := (List.getElem?_eq_some_iff.1 hk2).1
  refine ⟨by omega, ?_⟩
  unfold closeP
  rw [List.getElem?_zip_eq_some]
  exact ⟨hk2, by rw [gI_get (by omega)]; exact List.getElem?_eq_getElem (by omega)⟩
theorem closeP_len (d : LedD) {cs : List Int} (hlen : cs.length = d.stk.length) : (closeP d cs).length = cs.length := by
  unfold closeP; rw [List.length_zip, hlen, Nat.min_self]

theorem SigIn.only0 {w w' : World} {v : Value} {l : List SigD} {S : Nat → Prop} (h : SigIn w v l) (k : Only S w w') (hs : 0 < l.length → ∀ b, v.ownBlock = some b → ¬ S b) : SigIn w' v l := by
  rcases Nat.eq_zero_or_pos l.length with h0 | h0
  · obtain ⟨h1, a, c, hv, hn, _⟩ := h
    exact ⟨h1, a, c, hv, hn, fun h2 => by omega⟩
  · exact StIn.only sigC_len h k (hs h0)
theorem SigIn.own_lt {w : World} {v : Value} {l : List SigD} (h : SigIn w v l) (h0 : 0 < l.length) : ∀ b, v.ownBlock = some b → b < w.heap.size := fun b hb => by
  obtain ⟨a, c, rfl, HS⟩ := h.form
  obtain ⟨b1, o1, rfl, hc⟩ := HS.out.cells h0
  cases hb
  exact World.block_lt_of_cell? _ _ (hc 0 h0).1
/-- In the midst of a closing. -/
structure CfI (d d' : LedD) (day : Int) (P : List (Nat × Int)) (out : List Int) (k : Nat) : Prop where
  ok : LedOk d'
  acc : d'.acc = d.acc
  key : d'.key = d.key
  clo : d'.closed = d.closed
  go : closeF day d [] P = closeF day d' (out.take k) (P.drop k)
  bal : ∀ p ∈ P.drop k, balA (p.1 : Int) d'.ents = balA (p.1 : Int) d.ents
section
variable {d d' : LedD} {day : Int} {P : List (Nat × Int)} {out : List Int} {k i : Nat} {c : Int}
theorem CfI.start (ok : LedOk d) : CfI d d day P out 0 := ⟨ok, rfl, rfl, rfl, rfl, fun _ _ => rfl⟩
theorem CfI.at_ (h : CfI d d' day P out k) (hk : P[k]? = some (i, c)) : balA (i : Int) d'.ents = balA (i : Int) d.ents := by
  obtain ⟨hlt, he⟩ := List.getElem?_eq_some_iff.1 hk
  exact h.bal (i, c) (by rw [List.drop_eq_getElem_cons hlt, he]; exact List.mem_cons_self)
theorem CfI.cons (h : CfI d d' day P out k) (hk : P[k]? = some (i, c)) : closeF day d [] P =
    if c - balA (i : Int) d'.ents = 0 then closeF day d' (out.take k ++ [0]) (P.drop (k + 1))
    else if postErr d' (closeX d' i (c - balA (i : Int) d'.ents) day) ≠ 0 then (d', out.take k, postErr d' (closeX d' i (c - balA (i : Int) d'.ents) day))
    else closeF day (postD d' (closeX d' i (c - balA (i : Int) d'.ents) day)) (out.take k ++ [c - balA (i : Int) d'.ents]) (P.drop (k + 1)) := by
  obtain ⟨hlt, he⟩ := List.getElem?_eq_some_iff.1 hk
  rw [h.go, List.drop_eq_getElem_cons hlt, he, closeF_cons]
theorem CfI.zero (h : CfI d d' day P out k) (hk : P[k]? = some (i, c)) (ho : out[k]? = some (c - balA (i : Int) d.ents)) (h0 : c - balA (i : Int) d.ents = 0) : CfI d d' day P out (k + 1) := by
  obtain ⟨hl, hg⟩ := List.getElem?_eq_some_iff.1 ho
  refine ⟨h.ok, h.acc, h.key, h.clo, ?_, fun p hp => h.bal p ?_⟩
  · rw [h.cons hk, h.at_ hk, if_pos h0, List.take_succ_eq_append_getElem hl, hg, h0]
  · obtain ⟨hlt, he⟩ := List.getElem?_eq_some_iff.1 hk
    rw [List.drop_eq_getElem_cons hlt]
    exact List.mem_cons_of_mem _ hp
theorem CfI.bad (h : CfI d d' day P out k) (hk : P[k]? = some (i, c)) (h0 : c - balA (i : Int) d.ents ≠ 0) (hp : postErr d' (closeX d' i (c - balA (i : Int) d.ents) day) ≠ 0) : (closeF day d [] P).2.2 = postErr d' (closeX d' i (c - balA (i : Int) d.ents) day) := by
  rw [h.cons hk, h.at_ hk, if_neg h0, if_pos hp]
theorem CfI.post (h : CfI d d' day P out k) (hk : P[k]? = some (i, c)) (ho : out[k]? = some (c - balA (i : Int) d.ents)) (h0 : c - balA (i : Int) d.ents ≠ 0) (hp : postErr d' (closeX d' i (c - balA (i : Int) d.ents) day) = 0)
    (hi : i < d.n) (hs : (d.at' (i : Int)).stock = true) (hnd : ∀ p ∈ P.drop (k + 1), p.1 < d.n ∧ (d.at' (p.1 : Int)).stock = true ∧ p.1 ≠ i) : CfI d (postD d' (closeX d' i (c - balA (i : Int) d.ents) day)) day P out (k + 1) := by
  obtain ⟨hl, hg⟩ := List.getElem?_eq_some_iff.1 ho
  obtain ⟨hlt, he⟩ := List.getElem?_eq_some_iff.1 hk
  have hat : ∀ j : Int, d'.at' j = d.at' j := fun j => by unfold LedD.at'; rw [h.acc]
  have hn : d'.n = d.n := by unfold LedD.n; rw [h.acc]
  refine ⟨h.ok.post hp, h.acc, h.key, h.clo, ?_, fun p hpm => ?_⟩
  · rw [h.cons hk, h.at_ hk, if_neg h0, if_neg (fun hh => hh hp), List.take_succ_eq_append_getElem hl, hg]
  · obtain ⟨a1, a2, a3⟩ := hnd p hpm
    have hmv := (closeX_mv h.ok (k := i) (by rw [hn]; exact hi) (by rw [hat]; exact hs) (dif := c - balA (i : Int) d.ents) (day := day)).2 p.1 (by rw [hn]; exact a1) (by rw [hat]; exact a2) a3
    show balA (p.1 : Int) (d'.ents ++ [_]) = _
    rw [balA_snoc]
    dsimp only
    rw [hmv, Int.add_zero]
    exact h.bal p (by rw [List.drop_eq_getElem_cons hlt]; exact List.mem_cons_of_mem _ hpm)
end

set_option maxRecDepth 100000 in
set_option maxHeartbeats 4000000 in
theorem rClose_any (d : LedD) (va ve : Value) (day : Int) (cs : List Int) (vc : Value) (w : World) (ha : AccIn w va d.acc) (hs : SigIn w ve d.ents) (ok : LedOk d) (hc : Ints w vc cs) (hd : I64 day) (hcs : ∀ x ∈ cs, I64 x) (hnn : ∀ i : Nat, i < d.n → (d.at' i).stock = true → 0 ≤ balA (i : Int) d.ents) :
    Calls Try.prog 44 #[rLed d va ve, .int .i64 day, vc] w (RClosePost w d va ve day cs) := by
  have hp : ∀ e w', RClosePost w d va ve day cs e w' → RClosePost w d va ve day cs e w' := fun _ _ h => h
  obtain ⟨er, her⟩ : ∃ er, er = closeErr d day cs := ⟨_, rfl⟩
  have hw := closeErr_ways d day cs
  rw [← her] at hw
  have hn := ok.n1
  have hel := ok.len
  have hcl := hc.len
  unfold LedD.n at hn
  obtain ⟨n1, n2⟩ := hn
  have hrl := fun w1 (k : Ext w w1) => rLast_any d va ve w1 (hs.ext k) ok.len
  have hrb := fun i w1 (k : Ext w w1) => rBalance_any d va ve i 100000 w1 (hs.ext k) ok
  have hba : ∀ i, balU i 100000 d.ents = balA i d.ents := fun i => balU_all i _ _ fun x hx => (ok.day x hx).2
  obtain ⟨a, c, rfl, HA⟩ := ha.form
  obtain ⟨a2, c2, rfl, HS⟩ := hs.form
  obtain ⟨ac, cc, rfl, HC⟩ := hc.form
  unfold rLed at hrl hrb
  have NNB := Lib.hid hnn
  have HP := Lib.hid hp
  have OK := Lib.hid ok
  have HRL := Lib.hid hrl
  have HRB := Lib.hid hrb
  have HE := Lib.hid her
  have HBA := Lib.hid hba
  have HCS := Lib.hid hcs
  have HW := Lib.hid hw
  clear hnn hp ok hrl hrb her hba hcs hw
  clear ha hs hc
  unfold rLed
  go_enter Try.func44, Try.ntmps44
  go_upto_region 1 with (first
    | (with_reducible refine wpList_boxA (t := 81) rfl rfl rfl ?_
       rintro lb w1 hb1 hx1 hl1
       have LB := Lib.hid hb1
       have X := Lib.hid hx1
       have LL := Lib.hid hl1
       clear hb1 hx1 hl1)
    | (with_reducible refine wpList_allocA (t := 81) rfl rfl Try.zeroValue81 ?_
       rintro rb w3 hb3 hx3 hl3
       have nrl := Nat.lt_of_lt_of_le LB.out.lt hl3
       have lr := Nat.le_trans X.out.size hl3
       replace LB := Lib.hid (LB.out.ext hx3)
       replace X := Lib.hid (X.out.ext hx3)
       have RB := Lib.hid hb3
       have NRL := Lib.hid nrl
       have LR := Lib.hid lr
       clear hb3 nrl lr
       clear hl3 hx3))
  have b0 := LB.out.cell 0
  have b1 := LB.out.cell 1
  have b2 := LB.out.cell 2
  have b3 := LB.out.cell 3
  rcases HW.out with ⟨q1, her2⟩ | ⟨q1, hw2⟩
  case inl =>
    have HER := Lib.hid her2
    clear her2
    by_cases q2 : day < 0
    · clear q1
      go_wp2_with (
        with_reducible refine wpList_storeK (ty := 81) (cells := #[.int .u64 d.key, .slice a d.acc.length c, .slice a2 d.ents.length c2, .int .i64 d.closed]) rfl rfl RB.out ?_ ?_ ?_ ?_ ?_ ?_
        · rfl
        · rfl
        · kernel_rfl
        · rfl
        · simp [Value.oneCell']
        rintro w9 hb9 ho9
        have k0 := hb9.cell
        have hx9 := X.out.then_only ho9 (fun q e => by rw [e]; exact LR.out)
        clear X RB ho9
        have X := Lib.hid hx9
        have RB := Lib.hid hb9
        clear hx9 hb9)
      refine bodyPost_ret (v := .tuple #[.agg #[.int .u64 d.key, .slice a d.acc.length c, .slice a2 d.ents.length c2, .int .i64 d.closed], .slice none 0 0, .int .i64 er]) (by simp [results, Try.results44, go_sem, k0, HER.out]) rfl ?_
      exact HP.out _ _ ⟨X.out, .inl ⟨by rw [← HE.out, HER.out]; decide, by rw [← HE.out]; rfl⟩⟩
    · have q3 : (0:Int) ≤ day := by omega
      have q4 : 100000 < day := by omega
      clear q1 q2
      go_wp2_with (
        with_reducible refine wpList_storeK (ty := 81) (cells := #[.int .u64 d.key, .slice a d.acc.length c, .slice a2 d.ents.length c2, .int .i64 d.closed]) rfl rfl RB.out ?_ ?_ ?_ ?_ ?_ ?_
        · rfl
        · rfl
        · kernel_rfl
        · rfl
        · simp [Value.oneCell']
        rintro w9 hb9 ho9
        have k0 := hb9.cell
        have hx9 := X.out.then_only ho9 (fun q e => by rw [e]; exact LR.out)
        clear X RB ho9
        have X := Lib.hid hx9
        have RB := Lib.hid hb9
        clear hx9 hb9)
      refine bodyPost_ret (v := .tuple #[.agg #[.int .u64 d.key, .slice a d.acc.length c, .slice a2 d.ents.length c2, .int .i64 d.closed], .slice none 0 0, .int .i64 er]) (by simp [results, Try.results44, go_sem, k0, HER.out]) rfl ?_
      exact HP.out _ _ ⟨X.out, .inl ⟨by rw [← HE.out, HER.out]; decide, by rw [← HE.out]; rfl⟩⟩
  case inr =>
  obtain ⟨q1a, q1b⟩ := q1
  rcases hw2 with ⟨q2, her2⟩ | ⟨q2, hw2⟩
  case inl =>
    have HER := Lib.hid her2
    clear her2
    go_wp2_with (
      with_reducible refine wpList_storeK (ty := 81) (cells := #[.int .u64 d.key, .slice a d.acc.length c, .slice a2 d.ents.length c2, .int .i64 d.closed]) rfl rfl RB.out ?_ ?_ ?_ ?_ ?_ ?_
      · rfl
      · rfl
      · kernel_rfl
      · rfl
      · simp [Value.oneCell']
      rintro w9 hb9 ho9
      have k0 := hb9.cell
      have hx9 := X.out.then_only ho9 (fun q e => by rw [e]; exact LR.out)
      clear X RB ho9
      have X := Lib.hid hx9
      have RB := Lib.hid hb9
      clear hx9 hb9)
    refine bodyPost_ret (v := .tuple #[.agg #[.int .u64 d.key, .slice a d.acc.length c, .slice a2 d.ents.length c2, .int .i64 d.closed], .slice none 0 0, .int .i64 er]) (by simp [results, Try.results44, go_sem, k0, HER.out]) rfl ?_
    exact HP.out _ _ ⟨X.out, .inl ⟨by rw [← HE.out, HER.out]; decide, by rw [← HE.out]; rfl⟩⟩
  case inr =>
  rcases hw2 with ⟨q3, her2⟩ | ⟨q3, hw2⟩
  case inl =>
    have HER := Lib.hid her2
    clear her2
    go_upto_region 6 with (
      go_at_call 77
      refine (HRL.out _ X.out).mono ?_
      rintro e w4 ⟨rfl, hx4⟩
      replace LB := Lib.hid (LB.out.ext hx4)
      replace X := Lib.hid (X.out.ext hx4)
      replace RB := Lib.hid (RB.out.ext hx4)
      clear hx4 b0 b1 b2 b3)
    have b0 := LB.out.cell 0
    have b1 := LB.out.cell 1
    have b2 := LB.out.cell 2
    have b3 := LB.out.cell 3
    go_wp2_with (
      with_reducible refine wpList_storeK (ty := 81) (cells := #[.int .u64 d.key, .slice a d.acc.length c, .slice a2 d.ents.length c2, .int .i64 d.closed]) rfl rfl RB.out ?_ ?_ ?_ ?_ ?_ ?_
      · rfl
      · rfl
      · kernel_rfl
      · rfl
      · simp [Value.oneCell']
      rintro w9 hb9 ho9
      have k0 := hb9.cell
      have hx9 := X.out.then_only ho9 (fun q e => by rw [e]; exact LR.out)
      clear X RB ho9
      have X := Lib.hid hx9
      have RB := Lib.hid hb9
      clear hx9 hb9)
    refine bodyPost_ret (v := .tuple #[.agg #[.int .u64 d.key, .slice a d.acc.length c, .slice a2 d.ents.length c2, .int .i64 d.closed], .slice none 0 0, .int .i64 er]) (by simp [results, Try.results44, go_sem, k0, HER.out]) rfl ?_
    exact HP.out _ _ ⟨X.out, .inl ⟨by rw [← HE.out, HER.out]; decide, by rw [← HE.out]; rfl⟩⟩
  case inr =>
  go_upto_region 10 with (
    go_at_call 77
    refine (HRL.out _ X.out).mono ?_
    rintro e w4 ⟨rfl, hx4⟩
    replace LB := Lib.hid (LB.out.ext hx4)
    replace X := Lib.hid (X.out.ext hx4)
    replace RB := Lib.hid (RB.out.ext hx4)
    clear hx4 b0 b1 b2 b3)
  clear HRL
  obtain ⟨w4, rfl⟩ : ∃ W, W = w4 := ⟨w4, rfl⟩
  go_loopw [10, 11] (fun n t wr => ∃ i : Nat, i ≤ d.acc.length ∧ t = .int .i64 i ∧ n = .int .i64 ((stkN d.acc i).length : Nat) ∧ wr = w4) (fun _ t _ => d.acc.length - (intOf t).toNat)
  case atStart => exact ⟨0, Nat.zero_le _, rfl, rfl, rfl⟩
  case round =>
    obtain ⟨i, hi, rfl, rfl, rfl⟩ := hrel
    have b1 := LB.out.cell 1
    by_cases hil : i < d.acc.length
    · skip
      as_aux_lemma =>
        obtain ⟨b, o, rfl, hca⟩ := HA.out.cells (by omega)
        have e1 := X.out.cellSome (hca i hil).2
        have hss := stkN_succ d.acc i
        have hsl := stkN_len d.acc i
        have hgD : d.acc.getD i default = d.acc[i]'hil := by rw [List.getD_eq_getElem?_getD, List.getElem?_eq_getElem hil]; rfl
        rw [hgD] at hss
        obtain ⟨x, hx⟩ : ∃ x, x = d.acc[i]'hil := ⟨_, rfl⟩
        rw [← hx] at e1 hss
        obtain ⟨yg, ys⟩ := x
        dsimp only at e1 hss
        obtain ⟨k, hk⟩ : ∃ k, k = (stkN d.acc i).length := ⟨_, rfl⟩
        have hsk : (stkN d.acc (i + 1)).length = k + (if ys = true then 1 else 0) := by rw [hss, List.length_append, ← hk]; cases ys <;> rfl
        rw [← hk] at hsl ⊢
        have j1 : (0:Int) ≤ (i:Int) := by omega
        have j2 : (i:Int) < (d.acc.length:Int) := by omega
        have j3 : (0:Int) ≤ (k:Int) := by omega
        have j4 : (k:Int) ≤ 40 := by omega
        have HSK := Lib.hid hsk
        clear hsk
        clear hca hx hgD hss hk
        cases ys with
        | false =>
          go_wp2
          go_roundw
          case rel => exact ⟨i + 1, by omega, by go_num, by rw [HSK.out]; simp⟩
          case measure => simp [intOf]; omega
        | true =>
          go_wp2
          go_roundw
          case rel => exact ⟨i + 1, by omega, by go_num, by rw [HSK.out]; simp⟩
          case measure => simp [intOf]; omega
    · obtain rfl : i = d.acc.length := by omega
      clear hil
      have hstk : d.stk = stkN d.acc d.acc.length := rfl
      rw [← hstk]
      obtain ⟨sn, hsn⟩ : ∃ n, n = d.stk.length := ⟨_, rfl⟩
      have hsn40 : sn ≤ 40 := by rw [hsn]; have := stkN_len d.acc d.acc.length; rw [hstk]; omega
      rw [← hsn] at hw2 ⊢
      have b0 := LB.out.cell 0
      have b2 := LB.out.cell 2
      have b3 := LB.out.cell 3
      rcases hw2 with ⟨q4, her2⟩ | ⟨q4, hw2⟩
      case inl =>
        have HER := Lib.hid her2
        have q5 : ((sn : Int) != (cs.length : Int)) = true := by simp; omega
        clear her2 q4 hsn hstk
        go_wp2_with (
          with_reducible refine wpList_storeK (ty := 81) (cells := #[.int .u64 d.key, .slice a d.acc.length c, .slice a2 d.ents.length c2, .int .i64 d.closed]) rfl rfl RB.out ?_ ?_ ?_ ?_ ?_ ?_
          · rfl
          · rfl
          · kernel_rfl
          · rfl
          · simp [Value.oneCell']
          rintro w9 hb9 ho9
          have k0 := hb9.cell
          have hx9 := X.out.then_only ho9 (fun q e => by rw [e]; exact LR.out)
          clear X RB ho9
          have X := Lib.hid hx9
          have RB := Lib.hid hb9
          clear hx9 hb9)
        refine bodyPost_ret (v := .tuple #[.agg #[.int .u64 d.key, .slice a d.acc.length c, .slice a2 d.ents.length c2, .int .i64 d.closed], .slice none 0 0, .int .i64 er]) (by simp [results, Try.results44, go_sem, k0, HER.out]) rfl ?_
        exact HP.out _ _ ⟨X.out, .inl ⟨by rw [← HE.out, HER.out]; decide, by rw [← HE.out]; rfl⟩⟩
      case inr =>
      have HW2 := Lib.hid hw2
      have HLEN := Lib.hid (q4.trans hsn)
      rw [← q4]
      have hcs40 : cs.length ≤ 40 := by omega
      clear hw2 q4 hsn hsn40 hstk sn
      go_upto_region 17 with (fail)
      clear b0 b1 b2 b3
      obtain ⟨w5, rfl⟩ : ∃ W, W = wr := ⟨wr, rfl⟩
      obtain ⟨P, hP⟩ : ∃ P, P = closeP d cs := ⟨_, rfl⟩
      have hPl : P.length = cs.length := by rw [hP]; exact closeP_len d HLEN.out
      have hPat := fun i (hi : i < d.acc.length) (h : d.acc[i].stock = true) => closeP_at d HLEN.out hi h
      rw [← hP] at HW2 hPat
      have HPE := Lib.hid hP
      have HPL := Lib.hid hPl
      have HPA := Lib.hid hPat
      clear hPl hPat
      clear hP
      go_loopw [9, 12] (fun v t wr => ∃ (i : Nat) (out : List Int), i ≤ d.acc.length ∧ t = .int .i64 i ∧ Hid (out.length = (stkN d.acc i).length ∧ out = (P.take out.length).map (fun p => p.2 - balA (p.1 : Int) d.ents) ∧ (P.take out.length).all (closeR d) = true) ∧ Hid (wr.ownsRow w5.heap.size 3 1 v out.length (out.map (.int .i64))) ∧ Hid (Ext w5 wr)) (fun _ t _ => d.acc.length - (intOf t).toNat)
      case atStart => exact ⟨0, [], Nat.zero_le _, rfl, ⟨rfl, rfl, rfl⟩, World.ownsRow_nil _ _ _ _, Below.refl _ _⟩
      case round =>
        obtain ⟨i, out, hi, rfl, HO, HV, X2⟩ := hrel
        obtain ⟨ao, co, rfl⟩ := row_form HV.out
        have b1 := (LB.out.ext X2.out).cell 1
        by_cases hil : i < d.acc.length
        · skip
          as_aux_lemma =>
            obtain ⟨b, o, rfl, hca⟩ := HA.out.cells (by omega)
            have e1 := (X.out.tr X2.out).cellSome (hca i hil).2
            have hss := stkN_succ d.acc i
            have hsl := stkN_len d.acc i
            have hgD : d.acc.getD i default = d.acc[i]'hil := by rw [List.getD_eq_getElem?_getD, List.getElem?_eq_getElem hil]; rfl
            rw [hgD] at hss
            have hpa := HPA.out i hil
            have hin : i < d.n := hil
            have hat : d.at' (i : Int) = d.acc[i]'hil := at_nat hin
            have hnb := NNB.out i hin
            rw [hat] at hnb
            obtain ⟨x, hx⟩ : ∃ x, x = d.acc[i]'hil := ⟨_, rfl⟩
            rw [← hx] at e1 hss hpa hnb
            obtain ⟨yg, ys⟩ := x
            dsimp only at e1 hss hpa hnb
            have hbr := OK.out.bal (i : Int)
            have hrb2 := HRB.out (i : Int)
            rw [HBA.out] at hrb2
            obtain ⟨bl, hbl⟩ : ∃ y, y = balA (i : Int) d.ents := ⟨_, rfl⟩
            rw [← hbl] at hnb hbr hrb2
            have o1 := HO.out.1
            have O2 := Lib.hid HO.out.2.1
            have O3 := Lib.hid HO.out.2.2
            have j1 : (0:Int) ≤ (i:Int) := by omega
            have j2 : (i:Int) < (d.acc.length:Int) := by omega
            have hol : out.length ≤ 40 := by omega
            obtain ⟨hbr1, hbr2⟩ := hbr
            have HSS := Lib.hid hss
            have HRB2 := Lib.hid hrb2
            have HBL := Lib.hid hbl
            clear hss hrb2 hbl
            clear hca hx hgD hat hin hsl
            cases ys with
            | false =>
              have O1 := Lib.hid o1
              clear hpa hnb o1
              go_wp2
              go_roundw
              case rel => exact ⟨i + 1, out, by omega, by go_num, Lib.hid ⟨by rw [HSS.out]; simpa using O1.out, O2.out, O3.out⟩, HV, X2⟩
              case measure => simp [intOf]; omega
            | true =>
              obtain ⟨hk1, hk2⟩ := hpa rfl
              have hnb2 := hnb rfl
              rw [← o1] at hk1 hk2
              have HO1 := Lib.hid o1
              clear o1
              obtain ⟨k, hk⟩ : ∃ k, k = out.length := ⟨_, rfl⟩
              rw [← hk] at hk1 hk2
              obtain ⟨bc, oc, rfl, hcc⟩ := HC.out.cells (by omega)
              have e2 := (X.out.tr X2.out).cellSome (hcc k hk1)
              have hc6 := HCS.out _ (List.getElem_mem hk1)
              rw [← gI_get hk1] at e2 hc6
              obtain ⟨cv, hcv⟩ : ∃ y, y = gI cs k := ⟨_, rfl⟩
              rw [← hcv] at e2 hc6 hk2
              obtain ⟨hc6a, hc6b⟩ := hc6
              have hPk := List.mem_of_getElem? hk2
              have hbad : closeR d (i, cv) = false → er = 6 := fun h => by
                rcases HW2.out with ⟨_, h2⟩ | ⟨h2, _⟩
                · exact h2
                · rw [List.all_eq_true] at h2
                  rw [h2 _ hPk] at h; cases h
              have j3 : (0:Int) ≤ (k:Int) := by omega
              have j4 : (k:Int) < (cs.length:Int) := by omega
              have hX := X.out.tr X2.out
              have hRB := RB.out.ext X2.out
              have hLB := LB.out.ext X2.out
              rw [← hk]
              rw [← hk] at HV
              have HBAD := Lib.hid hbad
              have HK2 := Lib.hid hk2
              have HK := Lib.hid hk
              clear hbad hk2 hk
              clear hcc hcv hnb hPk
              by_cases hc0 : cv < 0
              · have HER := Lib.hid (HBAD.out (by unfold closeR; simp; intro h; omega))
                clear X RB LB X2 HV
                have X := Lib.hid hX
                have RB := Lib.hid hRB
                have LB := Lib.hid hLB
                clear hX hRB hLB
                have b0 := LB.out.cell 0
                have b1 := LB.out.cell 1
                have b2 := LB.out.cell 2
                have b3 := LB.out.cell 3
                go_wp2_with (
                  with_reducible refine wpList_storeK (ty := 81) (cells := #[.int .u64 d.key, .slice (some ⟨b, o, none⟩) d.acc.length c, .slice a2 d.ents.length c2, .int .i64 d.closed]) rfl rfl RB.out ?_ ?_ ?_ ?_ ?_ ?_
                  · rfl
                  · rfl
                  · kernel_rfl
                  · rfl
                  · simp [Value.oneCell']
                  rintro w9 hb9 ho9
                  have k0 := hb9.cell
                  have hx9 := X.out.then_only ho9 (fun q e => by rw [e]; exact LR.out)
                  clear X RB ho9
                  have X := Lib.hid hx9
                  have RB := Lib.hid hb9
                  clear hx9 hb9)
                refine bodyPost_ret (v := .tuple #[.agg #[.int .u64 d.key, .slice (some ⟨b, o, none⟩) d.acc.length c, .slice a2 d.ents.length c2, .int .i64 d.closed], .slice none 0 0, .int .i64 er]) (by simp [results, Try.results44, go_sem, k0, HER.out]) rfl ?_
                exact HP.out _ _ ⟨X.out, .inl ⟨by rw [← HE.out, HER.out]; decide, by rw [← HE.out]; rfl⟩⟩
              · have hc0' : (0:Int) ≤ cv := by omega
                have b0 := hLB.cell 0
                have b2 := hLB.cell 2
                have b3 := hLB.cell 3
                by_cases hr : -1000000000000 ≤ cv - bl ∧ cv - bl ≤ 1000000000000
                · obtain ⟨hr1, hr2⟩ := hr
                  have hgood : closeR d (i, cv) = true := by
                    unfold closeR
                    rw [Bool.and_eq_true, nIn_iff, ← HBL.out]
                    exact ⟨by simpa using hc0', hr1, hr2⟩
                  have HGOOD := Lib.hid hgood
                  clear hc0 hgood hRB hLB
                  go_upto_region 26 with (
                    go_at_call 78
                    refine (HRB2.out _ hX).mono ?_
                    rintro e w6 ⟨rfl, hx6⟩
                    replace HV := Lib.hid (owns_ext HV.out hx6)
                    replace X2 := Lib.hid (X2.out.tr hx6)
                    clear hx6 b0 b1 b2 b3 e1 e2)
                  go_upto_region 18 with (
                    at_builtin
                    refine wpList_app tInts rfl rfl rfl (owns_ext HV.out (ext_lit _ _ _)) rfl (Src.lit _ [.int .i64 (cv - bl)] 1 1 rfl 3 1) (by simp [Value.oneCell']) (by omega) (Nat.le_trans X2.out.size (by simp)) ?_
                    rintro v' w8 q1 q2 q3
                    have hx8 := ext_grown (X2.out.tr (ext_lit _ _ _)) (owns_ext HV.out (ext_lit _ _ _)) q2
                    have hv8 : w8.ownsRow w5.heap.size 3 1 v' (out ++ [cv - bl]).length ((out ++ [cv - bl]).map (.int .i64)) := by rw [List.length_append, List.map_append, ← HK.out]; exact q1
                    clear HV X2 q1 q2 q3
                    have HV := Lib.hid hv8
                    have X2 := Lib.hid hx8
                    clear hv8 hx8)
                  have hnew : (out ++ [cv - bl]).length = (stkN d.acc (i + 1)).length ∧ out ++ [cv - bl] = (P.take (out ++ [cv - bl]).length).map (fun p => p.2 - balA (p.1 : Int) d.ents) ∧ (P.take (out ++ [cv - bl]).length).all (closeR d) = true := by
                    have hlo : (out ++ [cv - bl]).length = k + 1 := by rw [List.length_append, ← HK.out]; rfl
                    have hlt := List.getElem?_eq_some_iff.1 HK2.out
                    obtain ⟨hlt1, hlt2⟩ := hlt
                    have htk : P.take (k + 1) = P.take k ++ [(i, cv)] := by rw [List.take_succ_eq_append_getElem hlt1, hlt2]
                    refine ⟨?_, ?_, ?_⟩
                    · rw [hlo, HSS.out, List.length_append, ← HO1.out, ← HK.out]; rfl
                    · rw [hlo, htk, List.map_append]
                      have h2 := O2.out
                      rw [← HK.out] at h2
                      rw [← h2, HBL.out]; rfl
                    · rw [hlo, htk, List.all_append]
                      have h3 := O3.out
                      rw [← HK.out] at h3
                      rw [h3]; simp [HGOOD.out]
                  have HNEW := Lib.hid hnew
                  clear hnew
                  go_wp2
                  go_roundw
                  case rel => exact ⟨i + 1, out ++ [cv - bl], by omega, by go_num, HNEW, HV, X2⟩
                  case measure => simp [intOf]; omega
                · have HER := Lib.hid (HBAD.out (by
                    unfold closeR
                    rw [Bool.and_eq_false_iff]
                    right
                    rw [Bool.eq_false_iff]
                    intro h
                    rw [nIn_iff, ← HBL.out] at h
                    exact hr h))
                  have hX0 := hX
                  clear hc0
                  by_cases hr3 : 1000000000000 < cv - bl
                  · have hr4 : cv - bl ≤ 9223372036854775807 := by omega
                    clear hr
                    go_upto_region 25 with (
                      go_at_call 78
                      refine (HRB2.out _ hX0).mono ?_
                      rintro e w6 ⟨rfl, hx6⟩
                      replace hX := hX.tr hx6
                      replace hRB := hRB.ext hx6
                      replace hLB := hLB.ext hx6
                      clear hx6 b0 b1 b2 b3 e1 e2)
                    clear X RB LB X2 HV
                    have X := Lib.hid hX
                    have RB := Lib.hid hRB
                    have LB := Lib.hid hLB
                    clear hX hRB hLB
                    have b0 := LB.out.cell 0
                    have b1 := LB.out.cell 1
                    have b2 := LB.out.cell 2
                    have b3 := LB.out.cell 3
                    go_wp2_with (
                      with_reducible refine wpList_storeK (ty := 81) (cells := #[.int .u64 d.key, .slice (some ⟨b, o, none⟩) d.acc.length c, .slice a2 d.ents.length c2, .int .i64 d.closed]) rfl rfl RB.out ?_ ?_ ?_ ?_ ?_ ?_
                      · rfl
                      · rfl
                      · kernel_rfl
                      · rfl
                      · simp [Value.oneCell']
                      rintro w9 hb9 ho9
                      have k0 := hb9.cell
                      have hx9 := X.out.then_only ho9 (fun q e => by rw [e]; exact LR.out)
                      clear X RB ho9
                      have X := Lib.hid hx9
                      have RB := Lib.hid hb9
                      clear hx9 hb9)
                    refine bodyPost_ret (v := .tuple #[.agg #[.int .u64 d.key, .slice (some ⟨b, o, none⟩) d.acc.length c, .slice a2 d.ents.length c2, .int .i64 d.closed], .slice none 0 0, .int .i64 er]) (by simp [results, Try.results44, go_sem, k0, HER.out]) rfl ?_
                    exact HP.out _ _ ⟨X.out, .inl ⟨by rw [← HE.out, HER.out]; decide, by rw [← HE.out]; rfl⟩⟩
                  · have hr4 : cv - bl < -1000000000000 := by omega
                    have hr5 : -9223372036854775808 ≤ cv - bl := by omega
                    have hr6 : ¬ (1000000000000 < cv - bl) := hr3
                    clear hr hr3
                    go_upto_region 25 with (
                      go_at_call 78
                      refine (HRB2.out _ hX0).mono ?_
                      rintro e w6 ⟨rfl, hx6⟩
                      replace hX := hX.tr hx6
                      replace hRB := hRB.ext hx6
                      replace hLB := hLB.ext hx6
                      clear hx6 b0 b1 b2 b3 e1 e2)
                    clear X RB LB X2 HV
                    have X := Lib.hid hX
                    have RB := Lib.hid hRB
                    have LB := Lib.hid hLB
                    clear hX hRB hLB
                    have b0 := LB.out.cell 0
                    have b1 := LB.out.cell 1
                    have b2 := LB.out.cell 2
                    have b3 := LB.out.cell 3
                    go_wp2_with (
                      with_reducible refine wpList_storeK (ty := 81) (cells := #[.int .u64 d.key, .slice (some ⟨b, o, none⟩) d.acc.length c, .slice a2 d.ents.length c2, .int .i64 d.closed]) rfl rfl RB.out ?_ ?_ ?_ ?_ ?_ ?_
                      · rfl
                      · rfl
                      · kernel_rfl
                      · rfl
                      · simp [Value.oneCell']
                      rintro w9 hb9 ho9
                      have k0 := hb9.cell
                      have hx9 := X.out.then_only ho9 (fun q e => by rw [e]; exact LR.out)
                      clear X RB ho9
                      have X := Lib.hid hx9
                      have RB := Lib.hid hb9
                      clear hx9 hb9)
                    refine bodyPost_ret (v := .tuple #[.agg #[.int .u64 d.key, .slice (some ⟨b, o, none⟩) d.acc.length c, .slice a2 d.ents.length c2, .int .i64 d.closed], .slice none 0 0, .int .i64 er]) (by simp [results, Try.results44, go_sem, k0, HER.out]) rfl ?_
                    exact HP.out _ _ ⟨X.out, .inl ⟨by rw [← HE.out, HER.out]; decide, by rw [← HE.out]; rfl⟩⟩
        · obtain rfl : i = d.acc.length := by omega
          obtain ⟨o1, o2, o3⟩ := HO.out
          have hPlen : P.length = out.length := by rw [HPL.out, HLEN.out, o1]; rfl
          rw [← hPlen, List.take_length] at o2 o3
          have her2 : er = (closeF day d [] P).2.2 := by
            rcases HW2.out with ⟨h1, _⟩ | ⟨_, h2⟩
            · rw [o3] at h1; cases h1
            · exact h2
          have hPf : ∀ (j : Nat) (x : Nat × Int), P[j]? = some x → out[j]? = some (x.2 - balA (x.1 : Int) d.ents) := fun j x h => by rw [o2, List.getElem?_map, h]; rfl
          have hPn : ∀ (j i : Nat) (c : Int), P[j]? = some (i, c) → ∀ p ∈ P.drop (j + 1), p.1 < d.n ∧ (d.at' (p.1 : Int)).stock = true ∧ p.1 ≠ i := fun j i c hj p hp => by
            have hm : p ∈ P := List.mem_of_mem_drop hp
            have hP := HPE.out
            have h1 : p ∈ closeP d cs := by rw [← hP]; exact hm
            unfold closeP at h1
            have h2 := (stk_mem d p.1).1 (zip_fst_mem h1).1
            refine ⟨h2.1, h2.2, fun e => ?_⟩
            have hnd : (P.map (·.1)).Nodup := by rw [hP]; unfold closeP; rw [zip_fst _ _ HLEN.out.symm]; exact stk_nodup d
            obtain ⟨hlt, he⟩ := List.getElem?_eq_some_iff.1 hj
            have h3 : P = P.take j ++ (i, c) :: P.drop (j + 1) := by rw [← he, ← List.drop_eq_getElem_cons hlt, List.take_append_drop]
            rw [h3, List.map_append, List.map_cons] at hnd
            have h4 := (List.nodup_append.1 hnd).2.1
            rw [List.nodup_cons] at h4
            exact h4.1 (List.mem_map.2 ⟨p, hp, e⟩)
          have hPc : ∀ (j i : Nat) (c : Int), P[j]? = some (i, c) → -1000000000000 ≤ c - balA (i : Int) d.ents ∧ c - balA (i : Int) d.ents ≤ 1000000000000 := fun j i c hj => by
            have h := List.all_eq_true.1 o3 _ (List.mem_of_getElem? hj)
            unfold closeR at h
            rw [Bool.and_eq_true, nIn_iff] at h
            exact h.2
          have hol : out.length ≤ 40 := by rw [← hPlen, HPL.out]; exact hcs40
          have hX := X.out.tr X2.out
          have hLB := LB.out.ext X2.out
          have hRB := RB.out.ext X2.out
          have hOU : Ints wr (.slice ao out.length co) out := Sl.of_owns HV.out
          have hOl : ∀ b, (Value.slice ao out.length co).ownBlock = some b → b < wr.heap.size := fun b hb => (HV.out.lt b hb).2
          have HPF := Lib.hid hPf
          have HPN := Lib.hid hPn
          have HPC := Lib.hid hPc
          have HER2 := Lib.hid her2
          clear hPf hPn hPc her2
          have HOLEN := Lib.hid o1
          have HVB := Lib.hid (fun b hb => (HV.out.lt b hb).1)
          have hrl5 := RB.out.lt
          have NRO : Hid (∀ b, (Value.slice ao out.length co).ownBlock = some b → b ≠ rb) := Lib.hid (fun b hb => by have := HVB.out b hb; omega)
          clear o1 hil o3 HO X LB RB X2 HV HW2 HBA HRB HCS HC HPL
          have O2 := Lib.hid o2
          have HPLE := Lib.hid hPlen
          have X := Lib.hid hX
          have LB := Lib.hid hLB
          have RB := Lib.hid hRB
          have OU := Lib.hid hOU
          have OL := Lib.hid hOl
          clear o2 hPlen hX hLB hRB hOU hOl b1
          have b0 := LB.out.cell 0
          have b1 := LB.out.cell 1
          have b2 := LB.out.cell 2
          have b3 := LB.out.cell 3
          go_upto_region 30 with (first
            | (with_reducible refine wpList_allocA (t := 81) rfl rfl Try.zeroValue81 ?_
               rintro nb w6 hb6 hx6 hl6
               have hnl := Nat.le_trans X.out.size hl6
               have nbl := Nat.lt_of_lt_of_le LB.out.lt hl6
               have nbr := Nat.lt_of_lt_of_le RB.out.lt hl6
               have hnw : wr.heap.size ≤ nb := hl6
               replace X := Lib.hid (X.out.ext hx6)
               replace LB := Lib.hid (LB.out.ext hx6)
               replace RB := Lib.hid (RB.out.ext hx6)
               replace OU := Lib.hid (OU.out.ext hx6)
               clear b0 b1 b2 b3
               have b0 := LB.out.cell 0
               have b1 := LB.out.cell 1
               have b2 := LB.out.cell 2
               have b3 := LB.out.cell 3
               have NB := Lib.hid hb6
               have NL := Lib.hid hnl
               have NBL := Lib.hid nbl
               have NBR := Lib.hid nbr
               have NW := Lib.hid hnw
               clear hb6 hnl nbl nbr hnw
               clear hx6 hl6)
            | (with_reducible refine wpList_storeK (ty := 81) (cells := #[.int .u64 d.key, .slice a d.acc.length c, .slice a2 d.ents.length c2, .int .i64 d.closed]) rfl rfl NB.out ?_ ?_ ?_ ?_ ?_ ?_
               · rfl
               · rfl
               · kernel_rfl
               · rfl
               · simp [Value.oneCell']
               rintro w7 hb7 ho7
               have hx7 := X.out.then_only ho7 (fun q e => by rw [e]; exact NL.out)
               have hl7 := LB.out.only ho7 (fun e => by have := NBL.out; omega)
               have hr7 := RB.out.only ho7 (fun e => by have := NBR.out; omega)
               have hou := Sl.only OU.out ho7 (fun b hb e => by have := OL.out b hb; have := NW.out; omega)
               have hou2 : Ints w7 (.slice ao out.length co) out := hou
               clear X LB RB OU NB ho7 b0 b1 b2 b3 hou
               have X := Lib.hid hx7
               have LB := Lib.hid hl7
               have RB := Lib.hid hr7
               have OU := Lib.hid hou2
               have NB := Lib.hid hb7
               clear hx7 hl7 hr7 hou2 hb7))
          have hsi : SigIn w7 (.slice a2 d.ents.length c2) d.ents := HS.out.ext X.out
          have hsn : 0 < d.ents.length → ∀ b, (Value.slice a2 d.ents.length c2).ownBlock = some b → b ≠ nb ∧ b ≠ rb ∧ ((0 < d.ents.length ∧ (Value.slice a2 d.ents.length c2).ownBlock = some b) ∨ w.heap.size ≤ b) := fun h0 b hb => by
            have h1 := HS.out.own_lt h0 b hb
            have := NL.out
            have := LR.out
            exact ⟨by omega, by omega, .inl ⟨h0, hb⟩⟩
          have hci := CfI.start (day := day) (P := P) (out := out) OK.out
          have OLN : Hid (∀ b, (Value.slice ao out.length co).ownBlock = some b → b < nb) := Lib.hid (fun b hb => Nat.lt_of_lt_of_le (OL.out b hb) NW.out)
          have SI := Lib.hid hsi
          have SN := Lib.hid hsn
          have CI := Lib.hid hci
          clear hsi hsn hci
          clear OL NW
          go_loopw [16, 17] (fun kv t wr => ∃ (i k : Nat) (d' : LedD) (aV : Option Addr) (cV : Nat), i ≤ d.acc.length ∧ t = .int .i64 i ∧ kv = .int .i64 k ∧ Hid (k = (stkN d.acc i).length) ∧ Hid (Blk wr nb #[.int .u64 d.key, .slice a d.acc.length c, .slice aV d'.ents.length cV, .int .i64 d.closed] 81) ∧ Hid (SigIn wr (.slice aV d'.ents.length cV) d'.ents ∧ (0 < d'.ents.length → ∀ b, (Value.slice aV d'.ents.length cV).ownBlock = some b → b ≠ nb ∧ b ≠ rb ∧ ((0 < d.ents.length ∧ (Value.slice a2 d.ents.length c2).ownBlock = some b) ∨ w.heap.size ≤ b))) ∧ Hid (CfI d d' day P out k) ∧
            Hid (Blk wr lb #[.int .u64 d.key, .slice a d.acc.length c, .slice a2 d.ents.length c2, .int .i64 d.closed] 81) ∧ Hid (Blk wr rb #[.int .u64 0, .slice none 0 0, .slice none 0 0, .int .i64 0] 81) ∧ Hid (Ints wr (.slice ao out.length co) out) ∧ Hid (Ext w wr)) (fun _ t _ => d.acc.length - (intOf t).toNat)
          case atStart => exact ⟨0, 0, d, a2, c2, Nat.zero_le _, rfl, rfl, rfl, NB.out, ⟨SI.out, SN.out⟩, CI.out, LB.out, RB.out, OU.out, X.out⟩
          case round =>
            clear NB SI SN CI LB RB OU X
            obtain ⟨i, k, d', aV, cV, hi, rfl, rfl, HK, NB, HSI, CI, LB, RB, OU, X⟩ := hrel
            have b0 := LB.out.cell 0
            have b1 := LB.out.cell 1
            have b2 := LB.out.cell 2
            have b3 := LB.out.cell 3
            by_cases hil : i < d.acc.length
            · obtain ⟨b, o, rfl, hca⟩ := HA.out.cells (by omega)
              have e0 := X.out.cellSome (hca i hil).1
              have e1 := X.out.cellSome (hca i hil).2
              have hss := stkN_succ d.acc i
              have hgD : d.acc.getD i default = d.acc[i]'hil := by rw [List.getD_eq_getElem?_getD, List.getElem?_eq_getElem hil]; rfl
              rw [hgD] at hss
              have hpa := HPA.out i hil
              have hin : i < d.n := hil
              have hat : d.at' (i : Int) = d.acc[i]'hil := at_nat hin
              have hlo := fun W (h : Ext w W) => rLoss_any d.acc (.slice (some ⟨b, o, none⟩) d.acc.length c) (d.at' (i : Int)).good W (HA.out.ext h)
              have hlr := lossI_range d.acc (d.at' (i : Int)).good
              rw [← hat] at e0 e1 hss hpa
              obtain ⟨lo, hloe⟩ : ∃ y, y = lossI d.acc (d.at' (i : Int)).good := ⟨_, rfl⟩
              rw [← hloe] at hlo hlr
              obtain ⟨yg, hyg⟩ : ∃ y, y = (d.at' (i : Int)).good := ⟨_, rfl⟩
              obtain ⟨ys, hys⟩ : ∃ y, y = (d.at' (i : Int)).stock := ⟨_, rfl⟩
              rw [← hyg] at e0 hlo
              rw [← hys] at e1 hss
              have hkk := HK.out
              have j1 : (0:Int) ≤ (i:Int) := by omega
              have j2 : (i:Int) < (d.acc.length:Int) := by omega
              have HSS := Lib.hid hss
              have HLO := Lib.hid hlo
              have HYS := Lib.hid hys
              have HLOE := Lib.hid hloe
              have HAT := Lib.hid hat
              clear hss hlo hys hloe hat
              clear hca hgD hyg hkk
              cases ys with
              | false =>
                clear hpa
                go_wp2
                go_roundw
                case rel => exact ⟨i + 1, k, d', aV, cV, by omega, by go_num, rfl, Lib.hid (by rw [HSS.out]; simpa using HK.out), NB, HSI, CI, LB, RB, OU, X⟩
                case measure => simp [intOf]; omega
              | true =>
                have hsi2 : (d.at' (i : Int)).stock = true := HYS.out.symm
                obtain ⟨hk1, hk2⟩ := hpa hsi2
                rw [← HK.out] at hk1 hk2
                obtain ⟨cv, hcv⟩ : ∃ y, y = gI cs k := ⟨_, rfl⟩
                rw [← hcv] at hk2
                have hok := HPF.out k _ hk2
                dsimp only at hok
                have hpc := HPC.out k i cv hk2
                have hpn := HPN.out k i cv hk2
                obtain ⟨df, hdf⟩ : ∃ y, y = cv - balA (i : Int) d.ents := ⟨_, rfl⟩
                have CIZ := Lib.hid (fun h0 => CI.out.zero hk2 hok h0)
                have CIB := Lib.hid (fun h0 hp => CI.out.bad hk2 h0 hp)
                have CIP := Lib.hid (fun h0 hp => CI.out.post hk2 hok h0 hp hin hsi2 hpn)
                rw [← hdf] at hok hpc CIZ CIB CIP
                obtain ⟨hko1, hko2⟩ := List.getElem?_eq_some_iff.1 hok
                obtain ⟨bo, oo, rfl, hco⟩ := Ints.cells OU.out (by omega)
                have eo := hco k hko1
                rw [hko2] at eo
                obtain ⟨hpc1, hpc2⟩ := hpc
                have j3 : (0:Int) ≤ (k:Int) := by omega
                have j4 : (k:Int) < (out.length:Int) := by omega
                have hHK : k + 1 = (stkN d.acc (i + 1)).length := by rw [HSS.out, List.length_append, ← HK.out]; rfl
                have hXM : closeX d' i df day = if 0 < df then ⟨lo, i, df, day⟩ else ⟨i, lo, -df, day⟩ := by
                  unfold closeX LedD.at'
                  rw [CI.out.acc, HLOE.out]; rfl
                have HK1 := Lib.hid hHK
                have HXM := Lib.hid hXM
                clear hHK hXM
                clear hco hk1 hk2 hcv hok hpn hdf hko1 hko2 hpa hin hsi2
                go_upto_region 35 with (fail)
                clear eo
                go_cut [19] from 118 to 131 (fun v W => ∃ xb, v = .pointer (some ⟨xb, 0, none⟩) ∧ Hid (Ext wr W ∧ wr.heap.size ≤ xb ∧ Blk W xb #[.int .i64 (i : Int), .int .i64 lo, .int .i64 (-df), .int .i64 day] 57))
                case first =>
                  as_aux_lemma =>
                    have hxd : Ext wr wr.drew := (Below.refl _ wr).drew
                    have w99 : IntKind.i64.wrap (-df) = -df := i64_eq _ ⟨by omega, by omega⟩
                    refine wp_region_K (fun W => W.cell? ⟨lb, 1, none⟩ = some (.slice (some ⟨b, o, none⟩) d.acc.length c) ∧ W.cell? ⟨b, o + i * 2, none⟩ = some (.int .i64 yg)) 16 (by kernel_rfl) ⟨hxd.cellSome b1, hxd.cellSome e0⟩ (fun hHeld => ?_)
                    have XC := Lib.hid hxd
                    clear hxd
                    generalize wr.drew = wy at *
                    refine wpAnyK_takeL (i := 0) (v := ?_) rfl (by kernel_rfl) (by kernel_rfl) (by kernel_rfl) (by kernel_rfl) (fun _ _ _ h => h) (Or.inl ⟨by rfl, ?_⟩) hHeld ?_
                    rotate_left
                    · intro w hSw; (try dsimp only at hSw); go_simp; (try with_reducible rfl)
                    try simp only [Act.put, List.setIfInBounds_toArray, List.set_cons_zero, List.set_cons_succ]
                    refine wpAnyK_takeL (i := 1) (v := ?_) rfl (by kernel_rfl) (by kernel_rfl) (by kernel_rfl) (by kernel_rfl) (fun _ _ _ h => h) (Or.inl ⟨by rfl, ?_⟩) hHeld ?_
                    rotate_left
                    · intro w hSw; (try dsimp only at hSw); go_simp; (try with_reducible rfl)
                    try simp only [Act.put, List.setIfInBounds_toArray, List.set_cons_zero, List.set_cons_succ]
                    refine wpAnyK_takeL (i := 2) (v := ?_) rfl (by kernel_rfl) (by kernel_rfl) (by kernel_rfl) (by kernel_rfl) (fun _ _ _ h => h) (Or.inl ⟨by rfl, ?_⟩) hHeld ?_
                    rotate_left
                    · intro w hSw; (try dsimp only at hSw); go_simp; (try with_reducible rfl)
                    try simp only [Act.put, List.setIfInBounds_toArray, List.set_cons_zero, List.set_cons_succ]
                    refine wpAnyK_takeL (i := 3) (v := ?_) rfl (by kernel_rfl) (by kernel_rfl) (by kernel_rfl) (by kernel_rfl) (fun _ _ _ h => h) (Or.inl ⟨by rfl, ?_⟩) hHeld ?_
                    rotate_left
                    · intro w hSw; (try dsimp only at hSw); go_simp; (try with_reducible rfl)
                    try simp only [Act.put, List.setIfInBounds_toArray, List.set_cons_zero, List.set_cons_succ]
                    refine wpAnyK_takeL (i := 4) (v := ?_) rfl (by kernel_rfl) (by kernel_rfl) (by kernel_rfl) (by kernel_rfl) (fun _ _ _ h => h) (Or.inl ⟨by rfl, ?_⟩) hHeld ?_
                    rotate_left
                    · intro w hSw; (try dsimp only at hSw); go_simp; (try with_reducible rfl)
                    try simp only [Act.put, List.setIfInBounds_toArray, List.set_cons_zero, List.set_cons_succ]
                    refine wpAnyK_takeL (i := 5) (v := ?_) rfl (by kernel_rfl) (by kernel_rfl) (by kernel_rfl) (by kernel_rfl) (fun _ _ _ h => h) (Or.inl ⟨by rfl, ?_⟩) hHeld ?_
                    rotate_left
                    · intro w hSw; (try dsimp only at hSw); go_simp; (try with_reducible rfl)
                    try simp only [Act.put, List.setIfInBounds_toArray, List.set_cons_zero, List.set_cons_succ]
                    refine wpAnyK_takeL (i := 6) (v := ?_) rfl (by kernel_rfl) (by kernel_rfl) (by kernel_rfl) (by kernel_rfl) (fun _ _ _ h => h) (Or.inl ⟨by rfl, ?_⟩) hHeld ?_
                    rotate_left
                    · intro w hSw; (try dsimp only at hSw); go_simp; (try with_reducible rfl)
                    try simp only [Act.put, List.setIfInBounds_toArray, List.set_cons_zero, List.set_cons_succ]
                    refine wpAnyK_takeL (i := 7) (v := ?_) rfl (by kernel_rfl) (by kernel_rfl) (by kernel_rfl) (by kernel_rfl) (fun _ _ _ h => h) (Or.inl ⟨by rfl, ?_⟩) hHeld ?_
                    rotate_left
                    · intro w hSw; (try dsimp only at hSw); go_simp; (try with_reducible rfl)
                    try simp only [Act.put, List.setIfInBounds_toArray, List.set_cons_zero, List.set_cons_succ]
                    refine wpAnyK_takeL (i := 8) (v := ?_) rfl (by kernel_rfl) (by kernel_rfl) (by kernel_rfl) (by kernel_rfl) (fun _ _ _ h => h) (Or.inl ⟨by rfl, ?_⟩) hHeld ?_
                    rotate_left
                    · intro w hSw; (try dsimp only at hSw); go_simp; (try with_reducible rfl)
                    try simp only [Act.put, List.setIfInBounds_toArray, List.set_cons_zero, List.set_cons_succ]
                    refine wpAnyK_takeL (i := 10) (v := ?_) rfl (by kernel_rfl) (by kernel_rfl) (by kernel_rfl) (by kernel_rfl) (fun _ _ _ h => h) (Or.inl ⟨by rfl, ?_⟩) hHeld ?_
                    rotate_left
                    · intro w hSw; (try dsimp only at hSw); go_simp; (try with_reducible rfl)
                    try simp only [Act.put, List.setIfInBounds_toArray, List.set_cons_zero, List.set_cons_succ]
                    refine wpAnyK_takeL (i := 11) (v := ?_) rfl (by kernel_rfl) (by kernel_rfl) (by kernel_rfl) (by kernel_rfl) (fun _ _ _ h => h) (Or.inl ⟨by rfl, ?_⟩) hHeld ?_
                    rotate_left
                    · intro w hSw; (try dsimp only at hSw); go_simp; (try with_reducible rfl)
                    try simp only [Act.put, List.setIfInBounds_toArray, List.set_cons_zero, List.set_cons_succ]
                    refine wpAnyK_takeL (i := 12) (v := ?_) rfl (by kernel_rfl) (by kernel_rfl) (by kernel_rfl) (by kernel_rfl) (fun _ _ _ h => h) (Or.inl ⟨by rfl, ?_⟩) hHeld ?_
                    rotate_left
                    · intro w hSw; (try dsimp only at hSw); go_simp; (try with_reducible rfl)
                    try simp only [Act.put, List.setIfInBounds_toArray, List.set_cons_zero, List.set_cons_succ]
                    refine wpAnyK_ready (rs := [9, 14]) (by kernel_rfl) (by simp) ?_
                    refine AllReadyK.consL (i := 9) rfl (fun K hK => ?_) ?_
                    · refine step_call (vs := #[.slice (some ⟨b, o, none⟩) d.acc.length c, .int .i64 yg]) rfl rfl rfl Try.func76 (by kernel_rfl) (by kernel_rfl) (HLO.out _ (X.out.tr XC.out)) ?_
                      rintro e w7 ⟨rfl, n7, hw7⟩
                      have hx7 : Ext _ w7 := hw7 ▸ Ext.of_drewN _ n7
                      refine ⟨_, rfl, ?_⟩
                      replace XC := Lib.hid (XC.out.ext hx7)
                      clear hw7 hx7
                      refine hK.out _ _ (fun _ => ⟨XC.out.cellSome b1, XC.out.cellSome e0⟩) (fun hHeld2 => ?_)
                      clear hK K
                      try clear hHeld
                      have hHeld := hHeld2 (by decide)
                      clear hHeld2
                      try simp only [Act.put, List.setIfInBounds_toArray, List.set_cons_zero, List.set_cons_succ]
                      refine wpAnyK_takeL (i := 13) (v := ?_) rfl (by kernel_rfl) (by kernel_rfl) (by kernel_rfl) (by kernel_rfl) (fun _ _ _ h => h) (Or.inl ⟨by rfl, ?_⟩) hHeld ?_
                      rotate_left
                      · intro w hSw; (try dsimp only at hSw); go_simp; (try with_reducible rfl)
                      try simp only [Act.put, List.setIfInBounds_toArray, List.set_cons_zero, List.set_cons_succ]
                      refine wpAnyK_ready (rs := [14]) (by kernel_rfl) (by simp) ?_
                      refine AllReadyK.consL (i := 14) rfl (fun K hK => ?_) ?_
                      · refine step_allocA rfl rfl Try.zeroValue57 ?_
                        intro xb wn hb hx hl
                        have lx := Nat.le_trans XC.out.size hl
                        replace XC := Lib.hid (XC.out.ext hx)
                        have XB := Lib.hid hb
                        have LX := Lib.hid lx
                        clear hb lx
                        clear hx hl
                        refine hK.out _ _ (fun _ => ⟨XC.out.cellSome b1, XC.out.cellSome e0⟩) (fun hHeld2 => ?_)
                        clear hK K
                        try clear hHeld
                        have hHeld := hHeld2 (by decide)
                        clear hHeld2
                        try simp only [Act.put, List.setIfInBounds_toArray, List.set_cons_zero, List.set_cons_succ]
                        refine wpAnyK_ready (rs := [15]) (by kernel_rfl) (by simp) ?_
                        refine AllReadyK.consL (i := 15) rfl (fun K hK => ?_) ?_
                        · refine step_storeK (cells := #[.int .i64 (i : Int), .int .i64 lo, .int .i64 (-df), .int .i64 day]) rfl rfl XB.out rfl rfl (by kernel_rfl) rfl (by simp [Value.oneCell']) ?_
                          intro wm hb ho
                          have hx2 := XC.out.then_only ho (fun q e => by rw [e]; exact LX.out)
                          clear XC
                          have XC := Lib.hid hx2
                          clear hx2
                          clear ho
                          refine hK.out _ _ (fun _ => ⟨XC.out.cellSome b1, XC.out.cellSome e0⟩) (fun hHeld2 => ?_)
                          clear hK K
                          try clear hHeld
                          have hHeld := hHeld2 (by decide)
                          clear hHeld2
                          try simp only [Act.put, List.setIfInBounds_toArray, List.set_cons_zero, List.set_cons_succ]
                          clear hHeld
                          refine wpAnyK_done (by kernel_rfl) ?_ _
                          go_wp2
                          go_meet
                          case rel => exact ⟨xb, rfl, XC.out, LX.out, hb⟩
                        · exact AllReadyK.nil
                      · exact AllReadyK.nil
                    refine AllReadyK.consL (i := 14) rfl (fun K hK => ?_) ?_
                    · refine step_allocA rfl rfl Try.zeroValue57 ?_
                      intro xb wn hb hx hl
                      have lx := Nat.le_trans XC.out.size hl
                      replace XC := Lib.hid (XC.out.ext hx)
                      have XB := Lib.hid hb
                      have LX := Lib.hid lx
                      clear hb lx
                      clear hx hl
                      refine hK.out _ _ (fun _ => ⟨XC.out.cellSome b1, XC.out.cellSome e0⟩) (fun hHeld2 => ?_)
                      clear hK K
                      try clear hHeld
                      have hHeld := hHeld2 (by decide)
                      clear hHeld2
                      try simp only [Act.put, List.setIfInBounds_toArray, List.set_cons_zero, List.set_cons_succ]
                      refine wpAnyK_ready (rs := [9]) (by kernel_rfl) (by simp) ?_
                      refine AllReadyK.consL (i := 9) rfl (fun K hK => ?_) ?_
                      · refine step_call (vs := #[.slice (some ⟨b, o, none⟩) d.acc.length c, .int .i64 yg]) rfl rfl rfl Try.func76 (by kernel_rfl) (by kernel_rfl) (HLO.out _ (X.out.tr XC.out)) ?_
                        rintro e w7 ⟨rfl, n7, hw7⟩
                        have hx7 : Ext _ w7 := hw7 ▸ Ext.of_drewN _ n7
                        refine ⟨_, rfl, ?_⟩
                        replace XC := Lib.hid (XC.out.ext hx7)
                        replace XB := Lib.hid (XB.out.ext hx7)
                        clear hw7 hx7
                        refine hK.out _ _ (fun _ => ⟨XC.out.cellSome b1, XC.out.cellSome e0⟩) (fun hHeld2 => ?_)
                        clear hK K
                        try clear hHeld
                        have hHeld := hHeld2 (by decide)
                        clear hHeld2
                        try simp only [Act.put, List.setIfInBounds_toArray, List.set_cons_zero, List.set_cons_succ]
                        refine wpAnyK_takeL (i := 13) (v := ?_) rfl (by kernel_rfl) (by kernel_rfl) (by kernel_rfl) (by kernel_rfl) (fun _ _ _ h => h) (Or.inl ⟨by rfl, ?_⟩) hHeld ?_
                        rotate_left
                        · intro w hSw; (try dsimp only at hSw); go_simp; (try with_reducible rfl)
                        try simp only [Act.put, List.setIfInBounds_toArray, List.set_cons_zero, List.set_cons_succ]
                        refine wpAnyK_ready (rs := [15]) (by kernel_rfl) (by simp) ?_
                        refine AllReadyK.consL (i := 15) rfl (fun K hK => ?_) ?_
                        · refine step_storeK (cells := #[.int .i64 (i : Int), .int .i64 lo, .int .i64 (-df), .int .i64 day]) rfl rfl XB.out rfl rfl (by kernel_rfl) rfl (by simp [Value.oneCell']) ?_
                          intro wm hb ho
                          have hx2 := XC.out.then_only ho (fun q e => by rw [e]; exact LX.out)
                          clear XC
                          have XC := Lib.hid hx2
                          clear hx2
                          clear ho
                          refine hK.out _ _ (fun _ => ⟨XC.out.cellSome b1, XC.out.cellSome e0⟩) (fun hHeld2 => ?_)
                          clear hK K
                          try clear hHeld
                          have hHeld := hHeld2 (by decide)
                          clear hHeld2
                          try simp only [Act.put, List.setIfInBounds_toArray, List.set_cons_zero, List.set_cons_succ]
                          clear hHeld
                          refine wpAnyK_done (by kernel_rfl) ?_ _
                          go_wp2
                          go_meet
                          case rel => exact ⟨xb, rfl, XC.out, LX.out, hb⟩
                        · exact AllReadyK.nil
                      · exact AllReadyK.nil
                    · exact AllReadyK.nil
                case rest =>
                  obtain ⟨xb, rfl, HCUT⟩ := hcut
                  obtain ⟨hxc, hlx, hxb⟩ := HCUT.out
                  have hX := X.out.tr hxc
                  have hLB := LB.out.ext hxc
                  have hRB := RB.out.ext hxc
                  have hNB := NB.out.ext hxc
                  have hOU := OU.out.ext hxc
                  have hSI := HSI.out.1.ext hxc
                  have hSN := HSI.out.2
                  have hSL := fun h0 b hb => HSI.out.1.own_lt h0 b hb
                  have hlw : w.heap.size ≤ xb := Nat.le_trans X.out.size hlx
                  have nxl : lb < xb ∧ rb < xb ∧ nb < xb := ⟨Nat.lt_of_lt_of_le LB.out.lt hlx, Nat.lt_of_lt_of_le RB.out.lt hlx, Nat.lt_of_lt_of_le NB.out.lt hlx⟩
                  clear HCUT b0 b1 b2 b3 e0 e1 X LB RB NB OU HSI
                  have X := Lib.hid hX
                  have LB := Lib.hid hLB
                  have RB := Lib.hid hRB
                  have NB := Lib.hid hNB
                  have OU := Lib.hid hOU
                  have SI := Lib.hid hSI
                  have SN := Lib.hid hSN
                  have SL := Lib.hid hSL
                  have XB := Lib.hid hxb
                  have NX := Lib.hid nxl
                  have LW := Lib.hid hlw
                  have LX := Lib.hid hlx
                  clear hX hLB hRB hNB hOU hSI hSN hSL hxb nxl hlw hlx hxc
                  have x0 := XB.out.cell 0
                  have x1 := XB.out.cell 1
                  have x2 := XB.out.cell 2
                  have x3 := XB.out.cell 3
                  have hn0 := NB.out.cell 0
                  have hn1 := NB.out.cell 1
                  have hn2 := NB.out.cell 2
                  have hn3 := NB.out.cell 3
                  by_cases hz : df = 0
                  · have ciz := CIZ.out hz
                    have z1 : (df == 0) = true := by simp [hz]
                    have z2 : ¬ (df > 0) := by omega
                    have z3 : ¬ (0 < df) := by omega
                    clear hz CIZ CIB CIP HXM
                    have CI2 := Lib.hid ciz
                    clear ciz
                    go_wp2
                    go_roundw
                    case rel => exact ⟨i + 1, k + 1, d', aV, cV, by omega, by go_num, by simp, HK1, NB, Lib.hid ⟨SI.out, SN.out⟩, CI2, LB, RB, OU, X⟩
                    case measure => simp [intOf]; omega
                  · obtain ⟨hlr1, hlr2⟩ := hlr
                    have z0 : (df == 0) = false := by simpa using hz
                    by_cases hp : 0 < df
                    · have hp' : df > 0 := hp
                      have lxx := NX.out
                      go_upto_region 38 with (
                        with_reducible refine wpList_storeK (ty := 57) (cells := #[.int .i64 lo, .int .i64 (i : Int), .int .i64 df, .int .i64 day]) rfl rfl XB.out ?_ ?_ ?_ ?_ ?_ ?_
                        · rfl
                        · rfl
                        · kernel_rfl
                        · rfl
                        · simp [Value.oneCell']
                        rintro w10 hb10 ho10
                        have hx10 := X.out.then_only ho10 (fun q e => by rw [e]; exact LW.out)
                        have hl10 := LB.out.only ho10 (fun e => by omega)
                        have hr10 := RB.out.only ho10 (fun e => by omega)
                        have hn10 := NB.out.only ho10 (fun e => by omega)
                        have hs10 := SigIn.only0 SI.out ho10 (fun h0 b hb e => by have := SL.out h0 b hb; have := LX.out; omega)
                        have ho11 : Ints w10 (.slice (some ⟨bo, oo, none⟩) out.length co) out := Sl.only OU.out ho10 (fun b hb e => by have := OLN.out b hb; omega)
                        clear X LB RB NB SI OU XB ho10 x0 x1 x2 x3 hn0 hn1 hn2 hn3
                        have X := Lib.hid hx10
                        have LB := Lib.hid hl10
                        have RB := Lib.hid hr10
                        have NB := Lib.hid hn10
                        have SI := Lib.hid hs10
                        have OU := Lib.hid ho11
                        have XB := Lib.hid hb10
                        clear hx10 hl10 hr10 hn10 hs10 ho11 hb10)
                      have x0 := XB.out.cell 0
                      have x1 := XB.out.cell 1
                      have x2 := XB.out.cell 2
                      have x3 := XB.out.cell 3
                      have hn0 := NB.out.cell 0
                      have hn1 := NB.out.cell 1
                      have hn2 := NB.out.cell 2
                      have hn3 := NB.out.cell 3
                      have hcx : closeX d' i df day = ⟨lo, (i : Int), df, day⟩ := by rw [HXM.out, if_pos hp]
                      have hft : (⟨lo, (i : Int), df, day⟩ : EntD).fits := by
                        refine ⟨?_, ?_, ?_, ?_⟩ <;> (unfold I64; dsimp only; omega)
                      have hpo := fun W (h1 : Ext w W) (h2 : SigIn W (.slice aV d'.ents.length cV) d'.ents) => rPost_any d' (.slice (some ⟨b, o, none⟩) d.acc.length c) (.slice aV d'.ents.length cV) ⟨lo, (i : Int), df, day⟩ W (by rw [CI.out.acc]; exact HA.out.ext h1) h2 CI.out.ok hft
                      rw [hcx] at CIB CIP
                      by_cases hpe : postErr d' ⟨lo, (i : Int), df, day⟩ = 0
                      · have ci2 := CIP.out hz hpe
                        have hgd : ∀ W e w', RPostPost W d' (.slice (some ⟨b, o, none⟩) d.acc.length c) (.slice aV d'.ents.length cV) ⟨lo, (i : Int), df, day⟩ e w' → ∃ aN cN, e = .returned (.tuple #[.agg #[.int .u64 d.key, .slice (some ⟨b, o, none⟩) d.acc.length c, .slice aN (postD d' ⟨lo, (i : Int), df, day⟩).ents.length cN, .int .i64 d.closed], .int .i64 0]) ∧ SigIn w' (.slice aN (postD d' ⟨lo, (i : Int), df, day⟩).ents.length cN) (postD d' ⟨lo, (i : Int), df, day⟩).ents ∧ (∀ b, (Value.slice aN (postD d' ⟨lo, (i : Int), df, day⟩).ents.length cN).ownBlock = some b → W.heap.size ≤ b) ∧ Ext W w' := fun W e w' hh => by
                          rcases hh with ⟨h1, _⟩ | ⟨_, v', h2, h3, h4, h5⟩
                          · exact absurd hpe h1
                          · obtain ⟨aN, cN, rfl, _⟩ := h3.form
                            refine ⟨aN, cN, ?_, h3, h4, h5⟩
                            rw [h2]
                            show Ending.returned (.tuple #[.agg #[.int .u64 d'.key, _, _, .int .i64 d'.closed], _]) = _
                            rw [CI.out.key, CI.out.clo]
                        unfold rLed entV at hpo
                        rw [CI.out.key, CI.out.clo] at hpo
                        obtain ⟨d2, hd2⟩ : ∃ y, y = postD d' ⟨lo, (i : Int), df, day⟩ := ⟨_, rfl⟩
                        rw [← hd2] at ci2 hgd
                        have HPO := Lib.hid hpo
                        have HGD := Lib.hid hgd
                        have CI2 := Lib.hid ci2
                        clear hpo hgd ci2
                        clear hcx hft hpe CIB CIP CIZ HXM hd2 hz
                        go_upto_region 40 with (first
                          | (go_at_call 45
                             refine (HPO.out _ X.out SI.out).mono ?_
                             rintro e w11 hh
                             obtain ⟨aN, cN, rfl, hs11, ho11, hx11⟩ := HGD.out _ e w11 hh
                             clear hh x0 x1 x2 x3 hn0 hn1 hn2 hn3
                             have nb11 := NB.out.lt
                             have rb11 := RB.out.lt
                             have xs11 := X.out.size
                             have hn11 : ∀ q, (Value.slice aN d2.ents.length cN).ownBlock = some q → q ≠ nb ∧ q ≠ rb ∧ ((0 < d.ents.length ∧ (Value.slice a2 d.ents.length c2).ownBlock = some q) ∨ w.heap.size ≤ q) := fun q hq => by have := ho11 q hq; exact ⟨by omega, by omega, .inr (by omega)⟩
                             clear xs11
                             replace X := Lib.hid (X.out.ext hx11)
                             replace LB := Lib.hid (LB.out.ext hx11)
                             replace RB := Lib.hid (RB.out.ext hx11)
                             replace NB := Lib.hid (NB.out.ext hx11)
                             replace OU := Lib.hid (OU.out.ext hx11)
                             clear SI SN SL
                             have SI := Lib.hid hs11
                             have SN := Lib.hid hn11
                             clear hs11 hn11
                             clear ho11 hx11 nb11 rb11)
                          | (with_reducible refine wpList_allocA (t := 81) rfl rfl Try.zeroValue81 ?_
                             rintro ab w12 hb12 hx12 hl12
                             have hab := Nat.le_trans X.out.size hl12
                             have nab : lb < ab ∧ rb < ab ∧ nb < ab := ⟨Nat.lt_of_lt_of_le LB.out.lt hl12, Nat.lt_of_lt_of_le RB.out.lt hl12, Nat.lt_of_lt_of_le NB.out.lt hl12⟩
                             have noa : ∀ b, (Value.slice (some ⟨bo, oo, none⟩) out.length co).ownBlock = some b → b ≠ ab := fun b hb => by have := OLN.out b hb; omega
                             have nsa : 0 < d2.ents.length → ∀ b, (Value.slice aN d2.ents.length cN).ownBlock = some b → b ≠ ab := fun h0 b hb => by have := SI.out.own_lt h0 b hb; omega
                             replace X := Lib.hid (X.out.ext hx12)
                             replace LB := Lib.hid (LB.out.ext hx12)
                             replace RB := Lib.hid (RB.out.ext hx12)
                             replace NB := Lib.hid (NB.out.ext hx12)
                             replace OU := Lib.hid (OU.out.ext hx12)
                             replace SI := Lib.hid (SI.out.ext hx12)
                             have AB := Lib.hid hb12
                             have HAB := Lib.hid hab
                             have NAB := Lib.hid nab
                             have NOA := Lib.hid noa
                             have NSA := Lib.hid nsa
                             clear hb12 hab nab noa nsa
                             clear hx12 hl12)
                          | (with_reducible refine wpList_storeK (ty := 81) (cells := #[.int .u64 d.key, .slice (some ⟨b, o, none⟩) d.acc.length c, .slice aN d2.ents.length cN, .int .i64 d.closed]) rfl rfl AB.out ?_ ?_ ?_ ?_ ?_ ?_
                             · rfl
                             · rfl
                             · kernel_rfl
                             · rfl
                             · simp [Value.oneCell']
                             rintro w13 hb13 ho13
                             have hx13 := X.out.then_only ho13 (fun q e => by rw [e]; exact HAB.out)
                             have n13 := NAB.out
                             have hl13 := LB.out.only ho13 (fun e => by omega)
                             have hr13 := RB.out.only ho13 (fun e => by omega)
                             have hn13 := NB.out.only ho13 (fun e => by omega)
                             have hs13 := SigIn.only0 SI.out ho13 (fun h0 b hb e => NSA.out h0 b hb e)
                             have hou13 : Ints w13 (.slice (some ⟨bo, oo, none⟩) out.length co) out := Sl.only OU.out ho13 (fun b hb e => NOA.out b hb e)
                             clear X LB RB NB SI OU AB ho13 n13
                             have X := Lib.hid hx13
                             have LB := Lib.hid hl13
                             have RB := Lib.hid hr13
                             have NB := Lib.hid hn13
                             have SI := Lib.hid hs13
                             have OU := Lib.hid hou13
                             have AB := Lib.hid hb13
                             clear hx13 hl13 hr13 hn13 hs13 hou13 hb13))
                        have a0 := AB.out.cell 0
                        have a1 := AB.out.cell 1
                        have a2' := AB.out.cell 2
                        have a3 := AB.out.cell 3
                        go_wp2_with (
                          with_reducible refine wpList_storeK (ty := 81) (cells := #[.int .u64 d.key, .slice (some ⟨b, o, none⟩) d.acc.length c, .slice aN d2.ents.length cN, .int .i64 d.closed]) rfl rfl NB.out ?_ ?_ ?_ ?_ ?_ ?_
                          · rfl
                          · rfl
                          · kernel_rfl
                          · rfl
                          · simp [Value.oneCell']
                          rintro w14 hb14 ho14
                          have hx14 := X.out.then_only ho14 (fun q e => by rw [e]; exact NL.out)
                          have hl14 := LB.out.only ho14 (fun e => by have := NBL.out; omega)
                          have hr14 := RB.out.only ho14 (fun e => by have := NBR.out; omega)
                          have hs14 := SigIn.only0 SI.out ho14 (fun h0 b hb e => (SN.out b hb).1 e)
                          have hou14 : Ints w14 (.slice (some ⟨bo, oo, none⟩) out.length co) out := Sl.only OU.out ho14 (fun b hb e => by have := OLN.out b hb; omega)
                          clear X LB RB NB SI OU ho14 a0 a1 a2' a3
                          have X := Lib.hid hx14
                          have LB := Lib.hid hl14
                          have RB := Lib.hid hr14
                          have NB := Lib.hid hb14
                          have SI := Lib.hid hs14
                          have OU := Lib.hid hou14
                          clear hx14 hl14 hr14 hb14 hs14 hou14)
                        go_roundw
                        case rel => exact ⟨i + 1, k + 1, d2, aN, cN, by omega, by go_num, by simp, HK1, NB, Lib.hid ⟨SI.out, fun _ b hb => SN.out b hb⟩, CI2, LB, RB, OU, X⟩
                        case measure => simp [intOf]; omega
                      · have hbad := CIB.out hz hpe
                        rw [← HER2.out] at hbad
                        have hne : er ≠ 0 := by rw [hbad]; exact hpe
                        have hgd : ∀ W e w', RPostPost W d' (.slice (some ⟨b, o, none⟩) d.acc.length c) (.slice aV d'.ents.length cV) ⟨lo, (i : Int), df, day⟩ e w' → e = .returned (.tuple #[.agg #[.int .u64 d.key, .slice (some ⟨b, o, none⟩) d.acc.length c, .slice aV d'.ents.length cV, .int .i64 d.closed], .int .i64 er]) ∧ Ext W w' := fun W e w' hh => by
                          rcases hh with ⟨_, h2, h3⟩ | ⟨h1, _⟩
                          · refine ⟨?_, h3⟩
                            rw [h2, ← hbad]
                            show Ending.returned (.tuple #[.agg #[.int .u64 d'.key, _, _, .int .i64 d'.closed], _]) = _
                            rw [CI.out.key, CI.out.clo]
                          · exact absurd h1 hpe
                        unfold rLed entV at hpo
                        rw [CI.out.key, CI.out.clo] at hpo
                        have hneb : (er != 0) = true := by simpa using hne
                        have HPO := Lib.hid hpo
                        have HGD := Lib.hid hgd
                        have NE0 := Lib.hid hne
                        clear hpo hgd hne
                        clear hcx hft hpe CIB CIP CIZ HXM hbad hz
                        go_upto_region 41 with (first
                          | (go_at_call 45
                             refine (HPO.out _ X.out SI.out).mono ?_
                             rintro e w11 hh
                             obtain ⟨rfl, hx11⟩ := HGD.out _ e w11 hh
                             clear hh x0 x1 x2 x3 hn0 hn1 hn2 hn3
                             replace X := Lib.hid (X.out.ext hx11)
                             replace LB := Lib.hid (LB.out.ext hx11)
                             replace RB := Lib.hid (RB.out.ext hx11)
                             clear SI SN SL NB OU hx11)
                          | (with_reducible refine wpList_allocA (t := 81) rfl rfl Try.zeroValue81 ?_
                             rintro ab w12 hb12 hx12 hl12
                             have hab := Nat.le_trans X.out.size hl12
                             have nab : lb < ab ∧ rb < ab := ⟨Nat.lt_of_lt_of_le LB.out.lt hl12, Nat.lt_of_lt_of_le RB.out.lt hl12⟩
                             replace X := Lib.hid (X.out.ext hx12)
                             replace LB := Lib.hid (LB.out.ext hx12)
                             replace RB := Lib.hid (RB.out.ext hx12)
                             have AB := Lib.hid hb12
                             have HAB := Lib.hid hab
                             have NAB := Lib.hid nab
                             clear hb12 hab nab
                             clear hx12 hl12)
                          | (with_reducible refine wpList_storeK (ty := 81) (cells := #[.int .u64 d.key, .slice (some ⟨b, o, none⟩) d.acc.length c, .slice aV d'.ents.length cV, .int .i64 d.closed]) rfl rfl AB.out ?_ ?_ ?_ ?_ ?_ ?_
                             · rfl
                             · rfl
                             · kernel_rfl
                             · rfl
                             · simp [Value.oneCell']
                             rintro w13 hb13 ho13
                             have hx13 := X.out.then_only ho13 (fun q e => by rw [e]; exact HAB.out)
                             have n13 := NAB.out
                             have hl13 := LB.out.only ho13 (fun e => by omega)
                             have hr13 := RB.out.only ho13 (fun e => by omega)
                             clear X LB RB AB ho13 n13 hb13
                             have X := Lib.hid hx13
                             have LB := Lib.hid hl13
                             have RB := Lib.hid hr13
                             clear hx13 hl13 hr13))
                        have b0 := LB.out.cell 0
                        have b1 := LB.out.cell 1
                        have b2 := LB.out.cell 2
                        have b3 := LB.out.cell 3
                        go_wp2_with (
                          with_reducible refine wpList_storeK (ty := 81) (cells := #[.int .u64 d.key, .slice (some ⟨b, o, none⟩) d.acc.length c, .slice a2 d.ents.length c2, .int .i64 d.closed]) rfl rfl RB.out ?_ ?_ ?_ ?_ ?_ ?_
                          · rfl
                          · rfl
                          · kernel_rfl
                          · rfl
                          · simp [Value.oneCell']
                          rintro w14 hb14 ho14
                          have k0 := hb14.cell
                          have hx14 := X.out.then_only ho14 (fun q e => by rw [e]; exact LR.out)
                          clear X RB ho14
                          have X := Lib.hid hx14
                          have RB := Lib.hid hb14
                          clear hx14 hb14)
                        refine bodyPost_ret (v := .tuple #[.agg #[.int .u64 d.key, .slice (some ⟨b, o, none⟩) d.acc.length c, .slice a2 d.ents.length c2, .int .i64 d.closed], .slice none 0 0, .int .i64 er]) (by simp [results, Try.results44, go_sem, k0]) rfl ?_
                        exact HP.out _ _ ⟨X.out, .inl ⟨by rw [← HE.out]; exact NE0.out, by rw [← HE.out]; rfl⟩⟩
                    · have hp2 : ¬ (df > 0) := hp
                      have hcx : closeX d' i df day = ⟨(i : Int), lo, (-df), day⟩ := by rw [HXM.out, if_neg hp]
                      have hft : (⟨(i : Int), lo, (-df), day⟩ : EntD).fits := by
                        refine ⟨?_, ?_, ?_, ?_⟩ <;> (unfold I64; dsimp only; omega)
                      have hpo := fun W (h1 : Ext w W) (h2 : SigIn W (.slice aV d'.ents.length cV) d'.ents) => rPost_any d' (.slice (some ⟨b, o, none⟩) d.acc.length c) (.slice aV d'.ents.length cV) ⟨(i : Int), lo, (-df), day⟩ W (by rw [CI.out.acc]; exact HA.out.ext h1) h2 CI.out.ok hft
                      rw [hcx] at CIB CIP
                      by_cases hpe : postErr d' ⟨(i : Int), lo, (-df), day⟩ = 0
                      · have ci2 := CIP.out hz hpe
                        have hgd : ∀ W e w', RPostPost W d' (.slice (some ⟨b, o, none⟩) d.acc.length c) (.slice aV d'.ents.length cV) ⟨(i : Int), lo, (-df), day⟩ e w' → ∃ aN cN, e = .returned (.tuple #[.agg #[.int .u64 d.key, .slice (some ⟨b, o, none⟩) d.acc.length c, .slice aN (postD d' ⟨(i : Int), lo, (-df), day⟩).ents.length cN, .int .i64 d.closed], .int .i64 0]) ∧ SigIn w' (.slice aN (postD d' ⟨(i : Int), lo, (-df), day⟩).ents.length cN) (postD d' ⟨(i : Int), lo, (-df), day⟩).ents ∧ (∀ b, (Value.slice aN (postD d' ⟨(i : Int), lo, (-df), day⟩).ents.length cN).ownBlock = some b → W.heap.size ≤ b) ∧ Ext W w' := fun W e w' hh => by
                          rcases hh with ⟨h1, _⟩ | ⟨_, v', h2, h3, h4, h5⟩
                          · exact absurd hpe h1
                          · obtain ⟨aN, cN, rfl, _⟩ := h3.form
                            refine ⟨aN, cN, ?_, h3, h4, h5⟩
                            rw [h2]
                            show Ending.returned (.tuple #[.agg #[.int .u64 d'.key, _, _, .int .i64 d'.closed], _]) = _
                            rw [CI.out.key, CI.out.clo]
                        unfold rLed entV at hpo
                        rw [CI.out.key, CI.out.clo] at hpo
                        obtain ⟨d2, hd2⟩ : ∃ y, y = postD d' ⟨(i : Int), lo, (-df), day⟩ := ⟨_, rfl⟩
                        rw [← hd2] at ci2 hgd
                        have HPO := Lib.hid hpo
                        have HGD := Lib.hid hgd
                        have CI2 := Lib.hid ci2
                        clear hpo hgd ci2
                        clear hcx hft hpe CIB CIP CIZ HXM hd2 hz
                        go_upto_region 40 with (first
                          | (go_at_call 45
                             refine (HPO.out _ X.out SI.out).mono ?_
                             rintro e w11 hh
                             obtain ⟨aN, cN, rfl, hs11, ho11, hx11⟩ := HGD.out _ e w11 hh
                             clear hh x0 x1 x2 x3 hn0 hn1 hn2 hn3
                             have nb11 := NB.out.lt
                             have rb11 := RB.out.lt
                             have xs11 := X.out.size
                             have hn11 : ∀ q, (Value.slice aN d2.ents.length cN).ownBlock = some q → q ≠ nb ∧ q ≠ rb ∧ ((0 < d.ents.length ∧ (Value.slice a2 d.ents.length c2).ownBlock = some q) ∨ w.heap.size ≤ q) := fun q hq => by have := ho11 q hq; exact ⟨by omega, by omega, .inr (by omega)⟩
                             clear xs11
                             replace X := Lib.hid (X.out.ext hx11)
                             replace LB := Lib.hid (LB.out.ext hx11)
                             replace RB := Lib.hid (RB.out.ext hx11)
                             replace NB := Lib.hid (NB.out.ext hx11)
                             replace OU := Lib.hid (OU.out.ext hx11)
                             clear SI SN SL
                             have SI := Lib.hid hs11
                             have SN := Lib.hid hn11
                             clear hs11 hn11
                             clear ho11 hx11 nb11 rb11)
                          | (with_reducible refine wpList_allocA (t := 81) rfl rfl Try.zeroValue81 ?_
                             rintro ab w12 hb12 hx12 hl12
                             have hab := Nat.le_trans X.out.size hl12
                             have nab : lb < ab ∧ rb < ab ∧ nb < ab := ⟨Nat.lt_of_lt_of_le LB.out.lt hl12, Nat.lt_of_lt_of_le RB.out.lt hl12, Nat.lt_of_lt_of_le NB.out.lt hl12⟩
                             have noa : ∀ b, (Value.slice (some ⟨bo, oo, none⟩) out.length co).ownBlock = some b → b ≠ ab := fun b hb => by have := OLN.out b hb; omega
                             have nsa : 0 < d2.ents.length → ∀ b, (Value.slice aN d2.ents.length cN).ownBlock = some b → b ≠ ab := fun h0 b hb => by have := SI.out.own_lt h0 b hb; omega
                             replace X := Lib.hid (X.out.ext hx12)
                             replace LB := Lib.hid (LB.out.ext hx12)
                             replace RB := Lib.hid (RB.out.ext hx12)
                             replace NB := Lib.hid (NB.out.ext hx12)
                             replace OU := Lib.hid (OU.out.ext hx12)
                             replace SI := Lib.hid (SI.out.ext hx12)
                             have AB := Lib.hid hb12
                             have HAB := Lib.hid hab
                             have NAB := Lib.hid nab
                             have NOA := Lib.hid noa
                             have NSA := Lib.hid nsa
                             clear hb12 hab nab noa nsa
                             clear hx12 hl12)
                          | (with_reducible refine wpList_storeK (ty := 81) (cells := #[.int .u64 d.key, .slice (some ⟨b, o, none⟩) d.acc.length c, .slice aN d2.ents.length cN, .int .i64 d.closed]) rfl rfl AB.out ?_ ?_ ?_ ?_ ?_ ?_
                             · rfl
                             · rfl
                             · kernel_rfl
                             · rfl
                             · simp [Value.oneCell']
                             rintro w13 hb13 ho13
                             have hx13 := X.out.then_only ho13 (fun q e => by rw [e]; exact HAB.out)
                             have n13 := NAB.out
                             have hl13 := LB.out.only ho13 (fun e => by omega)
                             have hr13 := RB.out.only ho13 (fun e => by omega)
                             have hn13 := NB.out.only ho13 (fun e => by omega)
                             have hs13 := SigIn.only0 SI.out ho13 (fun h0 b hb e => NSA.out h0 b hb e)
                             have hou13 : Ints w13 (.slice (some ⟨bo, oo, none⟩) out.length co) out := Sl.only OU.out ho13 (fun b hb e => NOA.out b hb e)
                             clear X LB RB NB SI OU AB ho13 n13
                             have X := Lib.hid hx13
                             have LB := Lib.hid hl13
                             have RB := Lib.hid hr13
                             have NB := Lib.hid hn13
                             have SI := Lib.hid hs13
                             have OU := Lib.hid hou13
                             have AB := Lib.hid hb13
                             clear hx13 hl13 hr13 hn13 hs13 hou13 hb13))
                        have a0 := AB.out.cell 0
                        have a1 := AB.out.cell 1
                        have a2' := AB.out.cell 2
                        have a3 := AB.out.cell 3
                        go_wp2_with (
                          with_reducible refine wpList_storeK (ty := 81) (cells := #[.int .u64 d.key, .slice (some ⟨b, o, none⟩) d.acc.length c, .slice aN d2.ents.length cN, .int .i64 d.closed]) rfl rfl NB.out ?_ ?_ ?_ ?_ ?_ ?_
                          · rfl
                          · rfl
                          · kernel_rfl
                          · rfl
                          · simp [Value.oneCell']
                          rintro w14 hb14 ho14
                          have hx14 := X.out.then_only ho14 (fun q e => by rw [e]; exact NL.out)
                          have hl14 := LB.out.only ho14 (fun e => by have := NBL.out; omega)
                          have hr14 := RB.out.only ho14 (fun e => by have := NBR.out; omega)
                          have hs14 := SigIn.only0 SI.out ho14 (fun h0 b hb e => (SN.out b hb).1 e)
                          have hou14 : Ints w14 (.slice (some ⟨bo, oo, none⟩) out.length co) out := Sl.only OU.out ho14 (fun b hb e => by have := OLN.out b hb; omega)
                          clear X LB RB NB SI OU ho14 a0 a1 a2' a3
                          have X := Lib.hid hx14
                          have LB := Lib.hid hl14
                          have RB := Lib.hid hr14
                          have NB := Lib.hid hb14
                          have SI := Lib.hid hs14
                          have OU := Lib.hid hou14
                          clear hx14 hl14 hr14 hb14 hs14 hou14)
                        go_roundw
                        case rel => exact ⟨i + 1, k + 1, d2, aN, cN, by omega, by go_num, by simp, HK1, NB, Lib.hid ⟨SI.out, fun _ b hb => SN.out b hb⟩, CI2, LB, RB, OU, X⟩
                        case measure => simp [intOf]; omega
                      · have hbad := CIB.out hz hpe
                        rw [← HER2.out] at hbad
                        have hne : er ≠ 0 := by rw [hbad]; exact hpe
                        have hgd : ∀ W e w', RPostPost W d' (.slice (some ⟨b, o, none⟩) d.acc.length c) (.slice aV d'.ents.length cV) ⟨(i : Int), lo, (-df), day⟩ e w' → e = .returned (.tuple #[.agg #[.int .u64 d.key, .slice (some ⟨b, o, none⟩) d.acc.length c, .slice aV d'.ents.length cV, .int .i64 d.closed], .int .i64 er]) ∧ Ext W w' := fun W e w' hh => by
                          rcases hh with ⟨_, h2, h3⟩ | ⟨h1, _⟩
                          · refine ⟨?_, h3⟩
                            rw [h2, ← hbad]
                            show Ending.returned (.tuple #[.agg #[.int .u64 d'.key, _, _, .int .i64 d'.closed], _]) = _
                            rw [CI.out.key, CI.out.clo]
                          · exact absurd h1 hpe
                        unfold rLed entV at hpo
                        rw [CI.out.key, CI.out.clo] at hpo
                        have hneb : (er != 0) = true := by simpa using hne
                        have HPO := Lib.hid hpo
                        have HGD := Lib.hid hgd
                        have NE0 := Lib.hid hne
                        clear hpo hgd hne
                        clear hcx hft hpe CIB CIP CIZ HXM hbad hz
                        go_upto_region 41 with (first
                          | (go_at_call 45
                             refine (HPO.out _ X.out SI.out).mono ?_
                             rintro e w11 hh
                             obtain ⟨rfl, hx11⟩ := HGD.out _ e w11 hh
                             clear hh x0 x1 x2 x3 hn0 hn1 hn2 hn3
                             replace X := Lib.hid (X.out.ext hx11)
                             replace LB := Lib.hid (LB.out.ext hx11)
                             replace RB := Lib.hid (RB.out.ext hx11)
                             clear SI SN SL NB OU hx11)
                          | (with_reducible refine wpList_allocA (t := 81) rfl rfl Try.zeroValue81 ?_
                             rintro ab w12 hb12 hx12 hl12
                             have hab := Nat.le_trans X.out.size hl12
                             have nab : lb < ab ∧ rb < ab := ⟨Nat.lt_of_lt_of_le LB.out.lt hl12, Nat.lt_of_lt_of_le RB.out.lt hl12⟩
                             replace X := Lib.hid (X.out.ext hx12)
                             replace LB := Lib.hid (LB.out.ext hx12)
                             replace RB := Lib.hid (RB.out.ext hx12)
                             have AB := Lib.hid hb12
                             have HAB := Lib.hid hab
                             have NAB := Lib.hid nab
                             clear hb12 hab nab
                             clear hx12 hl12)
                          | (with_reducible refine wpList_storeK (ty := 81) (cells := #[.int .u64 d.key, .slice (some ⟨b, o, none⟩) d.acc.length c, .slice aV d'.ents.length cV, .int .i64 d.closed]) rfl rfl AB.out ?_ ?_ ?_ ?_ ?_ ?_
                             · rfl
                             · rfl
                             · kernel_rfl
                             · rfl
                             · simp [Value.oneCell']
                             rintro w13 hb13 ho13
                             have hx13 := X.out.then_only ho13 (fun q e => by rw [e]; exact HAB.out)
                             have n13 := NAB.out
                             have hl13 := LB.out.only ho13 (fun e => by omega)
                             have hr13 := RB.out.only ho13 (fun e => by omega)
                             clear X LB RB AB ho13 n13 hb13
                             have X := Lib.hid hx13
                             have LB := Lib.hid hl13
                             have RB := Lib.hid hr13
                             clear hx13 hl13 hr13))
                        have b0 := LB.out.cell 0
                        have b1 := LB.out.cell 1
                        have b2 := LB.out.cell 2
                        have b3 := LB.out.cell 3
                        go_wp2_with (
                          with_reducible refine wpList_storeK (ty := 81) (cells := #[.int .u64 d.key, .slice (some ⟨b, o, none⟩) d.acc.length c, .slice a2 d.ents.length c2, .int .i64 d.closed]) rfl rfl RB.out ?_ ?_ ?_ ?_ ?_ ?_
                          · rfl
                          · rfl
                          · kernel_rfl
                          · rfl
                          · simp [Value.oneCell']
                          rintro w14 hb14 ho14
                          have k0 := hb14.cell
                          have hx14 := X.out.then_only ho14 (fun q e => by rw [e]; exact LR.out)
                          clear X RB ho14
                          have X := Lib.hid hx14
                          have RB := Lib.hid hb14
                          clear hx14 hb14)
                        refine bodyPost_ret (v := .tuple #[.agg #[.int .u64 d.key, .slice (some ⟨b, o, none⟩) d.acc.length c, .slice a2 d.ents.length c2, .int .i64 d.closed], .slice none 0 0, .int .i64 er]) (by simp [results, Try.results44, go_sem, k0]) rfl ?_
                        exact HP.out _ _ ⟨X.out, .inl ⟨by rw [← HE.out]; exact NE0.out, by rw [← HE.out]; rfl⟩⟩
            · obtain rfl : i = d.acc.length := by omega
              have hkl : k = P.length := by rw [HPLE.out, HK.out]; exact HOLEN.out.symm
              have hgo := CI.out.go
              rw [hkl, List.drop_length, HPLE.out, List.take_length] at hgo
              have hgo2 : closeF day d [] P = (d', out, 0) := hgo
              have her0 : er = 0 := by rw [HER2.out, hgo2]
              have hgo3 : closeF day d [] (closeP d cs) = (d', out, 0) := by rw [← HPE.out]; exact hgo2
              have HER := Lib.hid her0
              have HGO := Lib.hid hgo3
              clear hkl hgo hgo2 her0 hgo3 hil b0 b2 b3
              have nbl2 := NBL.out
              have nbr2 := NBR.out
              go_upto_region 44 with (
                with_reducible refine wpList_setK (i := 3) (v := .int .i64 day) rfl rfl NB.out ?_ ?_ ?_ ?_ ?_ ?_ ?_
                · rfl
                · rfl
                · show 3 < 4; omega
                · kernel_rfl
                · rfl
                · rfl
                rintro w8 hb8 ho8
                have hb9 : Blk w8 nb #[.int .u64 d.key, .slice a d.acc.length c, .slice aV d'.ents.length cV, .int .i64 day] 81 := hb8
                have hx8 := X.out.then_only ho8 (fun q e => by rw [e]; exact NL.out)
                have hr8 := RB.out.only ho8 (fun e => by omega)
                have hs8 := SigIn.only0 HSI.out.1 ho8 (fun h0 b hb e => (HSI.out.2 h0 b hb).1 e)
                have ho9 : Ints w8 (.slice ao out.length co) out := Sl.only OU.out ho8 (fun b hb e => by have := OLN.out b hb; omega)
                have hnrv := fun h0 b hb => (HSI.out.2 h0 b hb).2.1
                have hfe := fun h0 b hb => (HSI.out.2 h0 b hb).2.2
                clear X RB NB HSI OU hb8 ho8 LB b1
                have NB := Lib.hid hb9
                have X := Lib.hid hx8
                have RB := Lib.hid hr8
                have SI := Lib.hid hs8
                have OU := Lib.hid ho9
                have NRV := Lib.hid hnrv
                have FE := Lib.hid hfe
                clear hb9 hx8 hr8 hs8 ho9 hnrv hfe)
              have b0 := NB.out.cell 0
              have b1 := NB.out.cell 1
              have b2 := NB.out.cell 2
              have b3 := NB.out.cell 3
              go_wp2_with (
                with_reducible refine wpList_storeK (ty := 81) (cells := #[.int .u64 d.key, .slice a d.acc.length c, .slice aV d'.ents.length cV, .int .i64 day]) rfl rfl RB.out ?_ ?_ ?_ ?_ ?_ ?_
                · rfl
                · rfl
                · kernel_rfl
                · rfl
                · simp [Value.oneCell']
                rintro w9 hb9 ho9
                have k0 := hb9.cell
                have hx9 := X.out.then_only ho9 (fun q e => by rw [e]; exact LR.out)
                have hs9 := SigIn.only0 SI.out ho9 (fun h0 b hb e => NRV.out h0 b hb e)
                have hou9 : Ints w9 (.slice ao out.length co) out := Sl.only OU.out ho9 (fun b hb e => NRO.out b hb e)
                clear X RB ho9 SI OU
                have X := Lib.hid hx9
                have RB := Lib.hid hb9
                have SI := Lib.hid hs9
                have OU := Lib.hid hou9
                clear hx9 hb9 hs9 hou9)
              refine bodyPost_ret (v := .tuple #[.agg #[.int .u64 d.key, .slice a d.acc.length c, .slice aV d'.ents.length cV, .int .i64 day], .slice ao out.length co, .int .i64 0]) (by simp [results, Try.results44, go_sem, k0]) rfl ?_
              exact HP.out _ _ ⟨X.out, .inr ⟨by rw [← HE.out]; exact HER.out, .slice aV d'.ents.length cV, .slice ao out.length co, by rw [HGO.out]; show _ = Ending.returned (.tuple #[.agg #[.int .u64 d'.key, _, _, .int .i64 day], _, _]); rw [CI.out.key], by rw [HGO.out]; exact SI.out, by rw [HGO.out]; exact OU.out, by rw [HGO.out]; exact fun h0 b hb => FE.out h0 b hb⟩⟩
end Go.Proofs.Ytekplfbfkfiabaa
