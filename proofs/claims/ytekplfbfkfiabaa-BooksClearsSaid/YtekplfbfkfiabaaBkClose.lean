/- Close of the program. -/
import Derived.Test.YtekplfbfkfiabaaBkCl0
import Derived.Deep.CutRange
namespace Go.Proofs.Ytekplfbfkfiabaa
open Go.RowKit
set_option linter.unusedVariables false
set_option linter.unusedSimpArgs false

def closeX (d : LedD) (k : Nat) (dif day : Int) : EntD := if 0 < dif then ⟨lossI d.acc (d.at' k).good, k, dif, day⟩ else ⟨k, lossI d.acc (d.at' k).good, -dif, day⟩
def closeF (day : Int) : LedD → List Int → List (Nat × Int) → LedD × List Int × Int
  | d, ds, [] => (d, ds, 0)
  | d, ds, (k, c) :: r =>
    if c - balA k d.ents = 0 then closeF day d (ds ++ [0]) r
    else if postErr d (closeX d k (c - balA k d.ents) day) ≠ 0 then (d, ds, postErr d (closeX d k (c - balA k d.ents) day))
    else closeF day (postD d (closeX d k (c - balA k d.ents) day)) (ds ++ [c - balA k d.ents]) r
def LedD.stk (d : LedD) : List Nat := stkN d.acc d.n
def closeP (d : LedD) (cs : List Int) : List (Nat × Int) := d.stk.zip cs
def closeR (d : LedD) (p : Nat × Int) : Bool := decide (0 ≤ p.2) && nIn (p.2 - balA p.1 d.ents) (-1000000000000) 1000000000000
def closeErr (d : LedD) (day : Int) (cs : List Int) : Int :=
  if ¬ (0 ≤ day ∧ day ≤ 100000) then 6
  else if day ≤ d.closed then 12
  else if day < d.last then 11
  else if cs.length ≠ d.stk.length then 1
  else if (closeP d cs).all (closeR d) = false then 6
  else (closeF day d [] (closeP d cs)).2.2
theorem closeErr_ways (d : LedD) (day : Int) (cs : List Int) :
    (¬ (0 ≤ day ∧ day ≤ 100000) ∧ closeErr d day cs = 6) ∨ ((0 ≤ day ∧ day ≤ 100000) ∧
    ((day ≤ d.closed ∧ closeErr d day cs = 12) ∨ (d.closed < day ∧
    ((day < d.last ∧ closeErr d day cs = 11) ∨ (d.last ≤ day ∧
    ((cs.length ≠ d.stk.length ∧ closeErr d day cs = 1) ∨ (cs.length = d.stk.length ∧
    (((closeP d cs).all (closeR d) = false ∧ closeErr d day cs = 6) ∨ ((closeP d cs).all (closeR d) = true ∧ closeErr d day cs = (closeF day d [] (closeP d cs)).2.2))))))))) := by
  unfold closeErr
  by_cases q1 : 0 ≤ day ∧ day ≤ 100000
  · refine .inr ⟨q1, ?_⟩
    rw [if_neg (fun h => h q1)]
    by_cases q2 : day ≤ d.closed
    · exact .inl ⟨q2, if_pos q2⟩
    · refine .inr ⟨by omega, ?_⟩
      rw [if_neg q2]
      by_cases q3 : day < d.last
      · exact .inl ⟨q3, if_pos q3⟩
      · refine .inr ⟨by omega, ?_⟩
        rw [if_neg q3]
        by_cases q4 : cs.length = d.stk.length
        · refine .inr ⟨q4, ?_⟩
          rw [if_neg (fun h => h q4)]
          rcases q5 : (closeP d cs).all (closeR d) with _ | _
          · exact .inl ⟨rfl, if_pos rfl⟩
          · exact .inr ⟨rfl, if_neg (by decide)⟩
        · exact .inl ⟨q4, if_pos q4⟩
  · exact .inl ⟨q1, if_pos q1⟩

theorem closeF_cons (day : Int) (d : LedD) (ds : List Int) (k : Nat) (c : Int) (r : List (Nat × Int)) : closeF day d ds ((k, c) :: r) =
    if c - balA k d.ents = 0 then closeF day d (ds ++ [0]) r
    else if postErr d (closeX d k (c - balA k d.ents) day) ≠ 0 then (d, ds, postErr d (closeX d k (c - balA k d.ents) day))
    else closeF day (postD d (closeX d k (c - balA k d.ents) day)) (ds ++ [c - balA k d.ents]) r := rfl
theorem in_q (n l m : Int) (w : World) :
    Calls Try.prog 52 #[.int .i64 n, .int .i64 l, .int .i64 m] w fun e w' => e = .returned (.bool (nIn n l m)) ∧ w' = w :=
  (in_any n l m w).mono fun e w' h => ⟨h.1, h.2.symm⟩
def ClosePost (w : World) (B lb : Nat) (d : LedD) (m : LMem) (day : Int) (cs : List Int) (e : Ending) (w' : World) : Prop :=
  ∃ v m', e = .returned (.tuple #[v, .int .i64 (closeErr d day cs)]) ∧
    ((closeErr d day cs ≠ 0 ∧ v = .slice none 0 0 ∧ LSt w' B lb d m') ∨
     (closeErr d day cs = 0 ∧ w'.ownsRow w.heap.size 3 1 v (closeF day d [] (closeP d cs)).2.1.length ((closeF day d [] (closeP d cs)).2.1.map (.int .i64)) ∧ LSt w' B lb { (closeF day d [] (closeP d cs)).1 with closed := day } m')) ∧
    m'.ab = m.ab ∧ m'.va = m.va ∧ FreshOr w m.ve m'.ve ∧ Only (fun k => k = lb ∨ m.ve.ownBlock = some k) w w'
theorem bodyPostD_ret {P : Program} {fn : Func} {R : Ending → World → Prop} {a : Act} {w : World} {v : Value}
    (hd : a.defers = []) (hr : (results fn a.tmps).run P w = .ok v w) (hR : R (.returned v) w) : bodyPostD P fn R .ret a w := by
  show Leaves P fn a.tmps R a.defers .returning w
  rw [hd]
  exact ⟨v, hr, hR⟩
theorem leaves_congr {P : Program} {fn : Func} {t1 t2 : Array Value} {R : Ending → World → Prop} (h : results fn t1 = results fn t2) : ∀ (ds : List Deferred) (u : FrameMode) (w : World), Leaves P fn t1 R ds u w → Leaves P fn t2 R ds u w
  | [], .returning, w, ⟨v, h1, h2⟩ => ⟨v, h ▸ h1, h2⟩
  | [], .panicking chain, w, h1 => h1
  | [], .run, _, h1 => h1.elim
  | d :: ds, u, w, ⟨h1, fv, cap, f, args, h2, h3, h4⟩ => ⟨h1, fv, cap, f, args, h2, h3, h4.mono fun e u' w' hh => by
      cases e with
      | returned v => exact leaves_congr h ds _ _ hh
      | panicked ch => exact leaves_congr h ds _ _ hh
      | outgrown => exact hh⟩
theorem hQ29 {i : Nat} {v : Value} {R : Ending → World → Prop} {c : List PanicEntry} {a : Act} {w : World} (hi : 8 ≤ i) (h : bodyPostD Try.prog Try.f29 R (.panic c) (a.put (some i) v) w) : bodyPostD Try.prog Try.f29 R (.panic c) a w := by
  refine leaves_congr (t1 := a.tmps.setIfInBounds i v) ?_ _ _ _ h
  simp [results, Try.results29, Array.getElem?_setIfInBounds_ne (show i ≠ 6 by omega), Array.getElem?_setIfInBounds_ne (show i ≠ 7 by omega)]
theorem nIn_wrap (c b : Int) (hc : 0 ≤ c ∧ c ≤ 9223372036854775807) (hb : -5000000000000000 ≤ b ∧ b ≤ 5000000000000000) :
    nIn (wrap64 (c - b)) (-1000000000000) 1000000000000 = nIn (c - b) (-1000000000000) 1000000000000 := by
  apply Bool.eq_iff_iff.2
  rw [nIn_iff, nIn_iff]
  unfold wrap64
  constructor <;> intro h <;> omega

theorem zip_all_false {α β : Type} {p : α × β → Bool} {ks : List α} {cs : List β} (i : Nat) (h : i < ks.length) (h' : i < cs.length) (hf : p (ks[i], cs[i]) = false) : (ks.zip cs).all p = false := by
  rw [List.all_eq_false]
  refine ⟨(ks[i], cs[i]), ?_, by rw [hf]; decide⟩
  have hl : i < (ks.zip cs).length := by rw [List.length_zip]; omega
  have e : (ks.zip cs)[i] = (ks[i], cs[i]) := by rw [List.getElem_zip]
  rw [← e]; exact List.getElem_mem hl
theorem zip_all_true {α β : Type} {p : α × β → Bool} {ks : List α} {cs : List β} (h : ∀ i (h : i < ks.length) (h' : i < cs.length), p (ks[i], cs[i]) = true) : (ks.zip cs).all p = true := by
  rw [List.all_eq_true]
  intro x hx
  obtain ⟨i, hi, rfl⟩ := List.getElem_of_mem hx
  rw [List.length_zip] at hi
  rw [List.getElem_zip]
  exact h i (by omega) (by omega)

set_option maxRecDepth 100000 in
set_option maxHeartbeats 8000000 in
theorem close_any (B lb : Nat) (d : LedD) (m : LMem) (day : Int) (cs : List Int) (vc : Value) (w : World) (h : LSt w B lb d m) (ok : LedOk d) (hB : B ≤ w.heap.size) (hc : Ints w vc cs) (hd : I64 day) (hcs : ∀ x ∈ cs, I64 x)
    (nvc : ∀ b, vc.ownBlock = some b → b ≠ lb ∧ m.ve.ownBlock ≠ some b ∧ b < w.heap.size) :
    Calls Try.prog 29 #[.pointer (some ⟨lb, 0, none⟩), .int .i64 day, vc] w (ClosePost w B lb d m day cs) := by
  have hp : ∀ e w', ClosePost w B lb d m day cs e w' → ClosePost w B lb d m day cs e w' := fun _ _ h => h
  have hways := closeErr_ways d day cs
  obtain ⟨er, her⟩ : ∃ er, er = closeErr d day cs := ⟨_, rfl⟩
  rw [← her] at hways
  have hcl := hc.len
  obtain ⟨ac, cc, rfl, HC⟩ := hc.form
  have hvl := h.va_lt ok
  have hn := ok.n1
  unfold LedD.n at hn
  obtain ⟨n1, n2⟩ := hn
  obtain ⟨ks, hks⟩ : ∃ ks, ks = d.stk := ⟨_, rfl⟩
  have hks2 : stkN d.acc d.acc.length = ks := hks.symm
  have hkl : ks.length ≤ 40 := by rw [← hks2]; exact Nat.le_trans (stkN_len _ _) n2
  have hkm : ∀ k ∈ ks, k < d.acc.length := fun k hk => (stkN_mem (hks2 ▸ hk)).1
  unfold closeP at hways
  rw [← hks] at hways
  have HP := Lib.hid hp
  have HW := Lib.hid hways
  have HE := Lib.hid her
  have L := Lib.hid h
  have NV := Lib.hid hvl
  have OK := Lib.hid ok
  have NVC := Lib.hid nvc
  have HCS := Lib.hid hcs
  have HKS := Lib.hid hks
  have HKM := Lib.hid hkm
  clear hp hways her h hvl ok nvc hcs hks hkm
  have L0 := L
  clear hc
  go_enter_defers Try.func29, Try.ntmps29
  go_upto_region 3 with (first
    | (with_reducible refine wpList_box1 (v := .pointer (some ⟨lb, 0, none⟩)) rfl rfl rfl rfl ?_
       rintro bb w1 hb1 hx1 hl1
       have l1 := L.out.ext hx1
       clear L
       have L := Lib.hid l1
       have BB := Lib.hid hb1
       have X := Lib.hid hx1
       have LB := Lib.hid hl1
       clear l1 hb1 hx1 hl1)
    | (with_reducible refine wpList_alloc1 rfl rfl Try.zeroValue22 rfl ?_
       rintro fb w2 hb2 hx2 hl2
       have nbf := Nat.lt_of_lt_of_le BB.out.lt hl2
       replace L := Lib.hid (L.out.ext hx2)
       replace BB := Lib.hid (BB.out.ext hx2)
       replace X := Lib.hid (X.out.ext hx2)
       have FB := Lib.hid hb2
       have NBF := Lib.hid nbf
       clear hb2 nbf
       clear hx2 hl2)
    | (with_reducible refine wpList_alloc1 rfl rfl Try.zeroValue25 rfl ?_
       rintro eb w3 hb3 hx3 hl3
       have nfe := Nat.lt_of_lt_of_le FB.out.lt hl3
       replace L := Lib.hid (L.out.ext hx3)
       replace BB := Lib.hid (BB.out.ext hx3)
       replace FB := Lib.hid (FB.out.ext hx3)
       replace X := Lib.hid (X.out.ext hx3)
       have EB := Lib.hid hb3
       have NFE := Lib.hid nfe
       clear hb3 nfe
       have c0 := L.out.c0
       have bc := BB.out.cell 0
       clear hx3 hl3)
    | (go_at_call 66; refine (none_any lb m.ab _ c0).mono ?_; rintro e w' ⟨rfl, rfl⟩))
  have ca := L.out.ca
  go_upto_region 4 with (
    go_at_call 69
    refine (stocks_any d.acc m.va m.ab _ ca L.out.row (by omega)).mono ?_
    rintro e w4 ⟨vs, rfl, hx4, hs4⟩
    rw [hks2] at hs4
    have ws := Lib.hid (show w.heap.size ≤ w3.heap.size from X.out.size)
    have esz := Lib.hid EB.out.lt
    clear c0 ca bc
    replace L := Lib.hid (L.out.ext hx4)
    replace BB := Lib.hid (BB.out.ext hx4)
    replace FB := Lib.hid (FB.out.ext hx4)
    replace EB := Lib.hid (EB.out.ext hx4)
    replace X := Lib.hid (X.out.ext hx4)
    have bc := BB.out.cell 0
    have c0 := L.out.c0
    have c43 := L.out.c43
    obtain ⟨avs, cvs, rfl⟩ := row_form hs4
    have SK := Lib.hid hs4
    clear hs4
    clear hx4)
  clear hks2
  rcases HW.out with ⟨q1, her2⟩ | ⟨q1, hw2⟩
  case inl =>
    have HER := Lib.hid her2
    clear her2
    go_wp2_with (first
      | (go_at_call 52
         refine (in_false _ _ _ _ q1).mono ?_
         rintro e w' ⟨rfl, rfl⟩)
      | (with_reducible refine wpList_setK (i := 0) (v := .slice none 0 0) rfl rfl FB.out ?_ ?_ ?_ ?_ ?_ ?_ ?_
         · rfl
         · rfl
         · show 0 < 1; omega
         · kernel_rfl
         · rfl
         · rfl
         rintro w5 hb5 ho5
         have hb6 : Blk w5 fb #[.slice none 0 0] 22 := hb5
         have nbf := NBF.out
         have nfe := NFE.out
         have lfb : w.heap.size ≤ fb := Nat.le_trans LB.out (by omega)
         have hx5 := X.out.then_only ho5 (fun k (e : k = fb) => by rw [e]; exact lfb)
         have eb5 := EB.out.only ho5 (by omega)
         clear FB EB X
         have FB := Lib.hid hb6
         have EB := Lib.hid eb5
         have X := Lib.hid hx5
         clear hb6 eb5 hx5
         clear hb5 ho5 lfb nbf nfe)
      | (with_reducible refine wpList_setK (i := 0) (v := .int .i64 6) rfl rfl EB.out ?_ ?_ ?_ ?_ ?_ ?_ ?_
         · rfl
         · rfl
         · show 0 < 1; omega
         · kernel_rfl
         · rfl
         · rfl
         rintro w5 hb5 ho5
         have hb6 : Blk w5 eb #[.int .i64 6] 25 := hb5
         have nbf := NBF.out
         have nfe := NFE.out
         have leb : w.heap.size ≤ eb := Nat.le_trans LB.out (by omega)
         have hx5 := X.out.then_only ho5 (fun k (e : k = eb) => by rw [e]; exact leb)
         have fb5 := FB.out.only ho5 (by omega)
         have f0 := fb5.cell 0
         have e0 := hb6.cell 0
         clear FB EB X
         have X := Lib.hid hx5
         clear hx5
         clear hb5 hb6 ho5 leb nbf nfe fb5))
    refine bodyPostD_ret (v := .tuple #[.slice none 0 0, .int .i64 6]) rfl (by simp [results, Try.results29, go_sem, f0, e0]) (HP.out _ _ ⟨_, m, by rw [← HE.out, HER.out], .inl ⟨by rw [← HE.out, HER.out]; decide, rfl, L0.out.ext X.out⟩, rfl, rfl, .inl rfl, Only.of_ext X.out⟩)
  case inr =>
  have Q1 := Lib.hid q1
  go_upto_region 6 with (go_at_call 52; refine (in_true _ _ _ _ Q1.out).mono ?_; rintro e w' ⟨rfl, rfl⟩)
  rcases hw2 with ⟨q2, her2⟩ | ⟨q2, hw2⟩
  case inl =>
    have HER := Lib.hid her2
    clear her2 q1
    go_wp2_with (first
      | (with_reducible refine wpList_setK (i := 0) (v := .slice none 0 0) rfl rfl FB.out ?_ ?_ ?_ ?_ ?_ ?_ ?_
         · rfl
         · rfl
         · show 0 < 1; omega
         · kernel_rfl
         · rfl
         · rfl
         rintro w5 hb5 ho5
         have hb6 : Blk w5 fb #[.slice none 0 0] 22 := hb5
         have nbf := NBF.out
         have nfe := NFE.out
         have lfb : w.heap.size ≤ fb := Nat.le_trans LB.out (by omega)
         have hx5 := X.out.then_only ho5 (fun k (e : k = fb) => by rw [e]; exact lfb)
         have eb5 := EB.out.only ho5 (by omega)
         clear FB EB X
         have FB := Lib.hid hb6
         have EB := Lib.hid eb5
         have X := Lib.hid hx5
         clear hb6 eb5 hx5
         clear hb5 ho5 lfb nbf nfe)
      | (with_reducible refine wpList_setK (i := 0) (v := .int .i64 12) rfl rfl EB.out ?_ ?_ ?_ ?_ ?_ ?_ ?_
         · rfl
         · rfl
         · show 0 < 1; omega
         · kernel_rfl
         · rfl
         · rfl
         rintro w5 hb5 ho5
         have hb6 : Blk w5 eb #[.int .i64 12] 25 := hb5
         have nbf := NBF.out
         have nfe := NFE.out
         have leb : w.heap.size ≤ eb := Nat.le_trans LB.out (by omega)
         have hx5 := X.out.then_only ho5 (fun k (e : k = eb) => by rw [e]; exact leb)
         have fb5 := FB.out.only ho5 (by omega)
         have f0 := fb5.cell 0
         have e0 := hb6.cell 0
         clear FB EB X
         have X := Lib.hid hx5
         clear hx5
         clear hb5 hb6 ho5 leb nbf nfe fb5))
    refine bodyPostD_ret (v := .tuple #[.slice none 0 0, .int .i64 12]) rfl (by simp [results, Try.results29, go_sem, f0, e0]) (HP.out _ _ ⟨_, m, by rw [← HE.out, HER.out], .inl ⟨by rw [← HE.out, HER.out]; decide, rfl, L0.out.ext X.out⟩, rfl, rfl, .inl rfl, Only.of_ext X.out⟩)
  case inr =>
  have HLA := Lib.hid (last_any B lb d m w4 L.out OK.out.len)
  go_upto_region 8 with (fail)
  rcases hw2 with ⟨q3, her2⟩ | ⟨q3, hw2⟩
  case inl =>
    have HER := Lib.hid her2
    clear her2 q1 q2
    go_wp2_with (first
      | (go_at_call 70
         refine HLA.out.mono ?_
         rintro e w' ⟨rfl, nn, hw⟩
         have hx : Ext w4 w' := by rw [hw]; exact Ext.of_drewN _ _
         clear hw
         replace FB := Lib.hid (FB.out.ext hx)
         replace EB := Lib.hid (EB.out.ext hx)
         replace X := Lib.hid (X.out.ext hx)
         clear hx)
      | (with_reducible refine wpList_setK (i := 0) (v := .slice none 0 0) rfl rfl FB.out ?_ ?_ ?_ ?_ ?_ ?_ ?_
         · rfl
         · rfl
         · show 0 < 1; omega
         · kernel_rfl
         · rfl
         · rfl
         rintro w5 hb5 ho5
         have hb6 : Blk w5 fb #[.slice none 0 0] 22 := hb5
         have nbf := NBF.out
         have nfe := NFE.out
         have lfb : w.heap.size ≤ fb := Nat.le_trans LB.out (by omega)
         have hx5 := X.out.then_only ho5 (fun k (e : k = fb) => by rw [e]; exact lfb)
         have eb5 := EB.out.only ho5 (by omega)
         clear FB EB X
         have FB := Lib.hid hb6
         have EB := Lib.hid eb5
         have X := Lib.hid hx5
         clear hb6 eb5 hx5
         clear hb5 ho5 lfb nbf nfe)
      | (with_reducible refine wpList_setK (i := 0) (v := .int .i64 11) rfl rfl EB.out ?_ ?_ ?_ ?_ ?_ ?_ ?_
         · rfl
         · rfl
         · show 0 < 1; omega
         · kernel_rfl
         · rfl
         · rfl
         rintro w5 hb5 ho5
         have hb6 : Blk w5 eb #[.int .i64 11] 25 := hb5
         have nbf := NBF.out
         have nfe := NFE.out
         have leb : w.heap.size ≤ eb := Nat.le_trans LB.out (by omega)
         have hx5 := X.out.then_only ho5 (fun k (e : k = eb) => by rw [e]; exact leb)
         have fb5 := FB.out.only ho5 (by omega)
         have f0 := fb5.cell 0
         have e0 := hb6.cell 0
         clear FB EB X
         have X := Lib.hid hx5
         clear hx5
         clear hb5 hb6 ho5 leb nbf nfe fb5))
    refine bodyPostD_ret (v := .tuple #[.slice none 0 0, .int .i64 11]) rfl (by simp [results, Try.results29, go_sem, f0, e0]) (HP.out _ _ ⟨_, m, by rw [← HE.out, HER.out], .inl ⟨by rw [← HE.out, HER.out]; decide, rfl, L0.out.ext X.out⟩, rfl, rfl, .inl rfl, Only.of_ext X.out⟩)
  case inr =>
  go_upto_region 10 with (
    go_at_call 70
    refine HLA.out.mono ?_
    rintro e w5 ⟨rfl, nn, hw⟩
    have hx : Ext w4 w5 := by rw [hw]; exact Ext.of_drewN _ _
    clear hw bc c0 c43
    replace L := Lib.hid (L.out.ext hx)
    replace BB := Lib.hid (BB.out.ext hx)
    replace FB := Lib.hid (FB.out.ext hx)
    replace EB := Lib.hid (EB.out.ext hx)
    replace X := Lib.hid (X.out.ext hx)
    have sk5 := owns_ext SK.out hx
    clear SK hx
    have bc := BB.out.cell 0
    have c0 := L.out.c0
    have SK := Lib.hid sk5
    clear sk5)
  clear HLA
  rcases hw2 with ⟨q4, her2⟩ | ⟨q4, hw2⟩
  case inl =>
    have HER := Lib.hid her2
    have q4' : ((cs.length : Int) != (ks.length : Int)) = true := by simp; omega
    clear her2 q1 q2 q3 q4
    go_wp2_with (first
      | (with_reducible refine wpList_setK (i := 0) (v := .slice none 0 0) rfl rfl FB.out ?_ ?_ ?_ ?_ ?_ ?_ ?_
         · rfl
         · rfl
         · show 0 < 1; omega
         · kernel_rfl
         · rfl
         · rfl
         rintro w5 hb5 ho5
         have hb6 : Blk w5 fb #[.slice none 0 0] 22 := hb5
         have nbf := NBF.out
         have nfe := NFE.out
         have lfb : w.heap.size ≤ fb := Nat.le_trans LB.out (by omega)
         have hx5 := X.out.then_only ho5 (fun k (e : k = fb) => by rw [e]; exact lfb)
         have eb5 := EB.out.only ho5 (by omega)
         clear FB EB X
         have FB := Lib.hid hb6
         have EB := Lib.hid eb5
         have X := Lib.hid hx5
         clear hb6 eb5 hx5
         clear hb5 ho5 lfb nbf nfe)
      | (with_reducible refine wpList_setK (i := 0) (v := .int .i64 1) rfl rfl EB.out ?_ ?_ ?_ ?_ ?_ ?_ ?_
         · rfl
         · rfl
         · show 0 < 1; omega
         · kernel_rfl
         · rfl
         · rfl
         rintro w5 hb5 ho5
         have hb6 : Blk w5 eb #[.int .i64 1] 25 := hb5
         have nbf := NBF.out
         have nfe := NFE.out
         have leb : w.heap.size ≤ eb := Nat.le_trans LB.out (by omega)
         have hx5 := X.out.then_only ho5 (fun k (e : k = eb) => by rw [e]; exact leb)
         have fb5 := FB.out.only ho5 (by omega)
         have f0 := fb5.cell 0
         have e0 := hb6.cell 0
         clear FB EB X
         have X := Lib.hid hx5
         clear hx5
         clear hb5 hb6 ho5 leb nbf nfe fb5))
    refine bodyPostD_ret (v := .tuple #[.slice none 0 0, .int .i64 1]) rfl (by simp [results, Try.results29, go_sem, f0, e0]) (HP.out _ _ ⟨_, m, by rw [← HE.out, HER.out], .inl ⟨by rw [← HE.out, HER.out]; decide, rfl, L0.out.ext X.out⟩, rfl, rfl, .inl rfl, Only.of_ext X.out⟩)
  case inr =>
  have q4' : cs.length = ks.length := q4
  have HW2 := Lib.hid hw2
  clear hw2 q4
  go_upto_region 13 with (fail)
  go_loopw [49] (fun t wr => ∃ k : Nat, k ≤ ks.length ∧ t = .int .i64 k ∧ Hid (∀ i (h : i < ks.length) (h' : i < cs.length), i < k → closeR d (ks[i], cs[i]) = true) ∧ Hid (Ext w5 wr)) (fun t _ => ks.length - (intOf t).toNat)
  case atStart => exact ⟨0, Nat.zero_le _, rfl, fun i _ _ hi => by omega, Below.refl _ _⟩
  case round =>
    obtain ⟨k, hk, rfl, HA, HX⟩ := hrel
    by_cases hlt : k < ks.length
    · obtain ⟨gs, cs1, hgs, hsc⟩ := owns_pos SK.out (by omega)
      obtain ⟨b2, o2, hac, hcc⟩ := HC.out.cells (by omega)
      have hbal := OK.out.bal ks[k]
      have hk40 : ks[k] < 40 := by have := HKM.out _ (List.getElem_mem hlt); omega
      have cb1 := HX.out.cellSome (L.out.cb ks[k] hk40)
      have bc1 := HX.out.cellSome bc
      have sk1 := HX.out.cellSome (hsc k (.int .i64 ks[k]) (by unfold stkV; rw [List.getElem?_map, List.getElem?_eq_getElem hlt]; rfl))
      have ci1 := HX.out.cellSome (X.out.cellSome (hcc k (by omega)))
      have hcI := HCS.out cs[k] (List.getElem_mem (by omega))
      have HR : Hid (closeR d (ks[k], cs[k]) = (decide (0 ≤ cs[k]) && nIn (cs[k] - balA ks[k] d.ents) (-1000000000000) 1000000000000)) := rfl
      have HZF := Lib.hid (zip_all_false (p := closeR d) k hlt (by omega : k < cs.length))
      obtain ⟨i, hi⟩ : ∃ i, i = ks[k] := ⟨_, rfl⟩
      obtain ⟨c, hcc2⟩ : ∃ c, c = cs[k] := ⟨_, rfl⟩
      rw [← hi] at hbal hk40 cb1 sk1 HR HZF
      rw [← hcc2] at ci1 hcI HR HZF
      obtain ⟨bl, hbl⟩ : ∃ b, b = balA (i : Int) d.ents := ⟨_, rfl⟩
      rw [← hbl] at hbal cb1 HR
      obtain ⟨hbal1, hbal2⟩ := hbal
      obtain ⟨hc1, hc2⟩ := hcI
      have j1 : (0:Int) ≤ (k:Int) := by omega
      have j2 : (k:Int) < (ks.length:Int) := by omega
      have j3 : (k:Int) < (cs.length:Int) := by omega
      have i1 : (0:Int) ≤ (i:Int) := by omega
      have i2 : (i:Int) < 40 := by omega
      injection hgs with hg1 hg2 hg3
      subst hac hg1
      have HIC := Lib.hid (And.intro hi hcc2)
      clear hcc hsc hbl hi hcc2 hg2
      go_upto_region 15 with (fail)
      by_cases q5 : c < 0
      · have HER : Hid (er = 6) := by
          rcases HW2.out with ⟨_, h2⟩ | ⟨h2, _⟩
          · exact h2
          · rw [HZF.out (by rw [HR.out, decide_eq_false (by omega)]; rfl)] at h2; cases h2
        go_quiet (fail)
        have hxq : Ext wr (wr.drewN nq) := Ext.of_drewN _ _
        have hx := HX.out.tr hxq
        replace FB := Lib.hid (FB.out.ext hx)
        replace EB := Lib.hid (EB.out.ext hx)
        replace X := Lib.hid (X.out.ext hx)
        generalize wr.drewN nq = wq at *
        clear hx hxq
        go_wp2_with (first
          | (with_reducible refine wpList_setK (i := 0) (v := .slice none 0 0) rfl rfl FB.out ?_ ?_ ?_ ?_ ?_ ?_ ?_
             · rfl
             · rfl
             · show 0 < 1; omega
             · kernel_rfl
             · rfl
             · rfl
             rintro w5 hb5 ho5
             have hb6 : Blk w5 fb #[.slice none 0 0] 22 := hb5
             have nbf := NBF.out
             have nfe := NFE.out
             have lfb : w.heap.size ≤ fb := Nat.le_trans LB.out (by omega)
             have hx5 := X.out.then_only ho5 (fun k (e : k = fb) => by rw [e]; exact lfb)
             have eb5 := EB.out.only ho5 (by omega)
             clear FB EB X
             have FB := Lib.hid hb6
             have EB := Lib.hid eb5
             have X := Lib.hid hx5
             clear hb6 eb5 hx5
             clear hb5 ho5 lfb nbf nfe)
          | (with_reducible refine wpList_setK (i := 0) (v := .int .i64 6) rfl rfl EB.out ?_ ?_ ?_ ?_ ?_ ?_ ?_
             · rfl
             · rfl
             · show 0 < 1; omega
             · kernel_rfl
             · rfl
             · rfl
             rintro w5 hb5 ho5
             have hb6 : Blk w5 eb #[.int .i64 6] 25 := hb5
             have nbf := NBF.out
             have nfe := NFE.out
             have leb : w.heap.size ≤ eb := Nat.le_trans LB.out (by omega)
             have hx5 := X.out.then_only ho5 (fun k (e : k = eb) => by rw [e]; exact leb)
             have fb5 := FB.out.only ho5 (by omega)
             have f0 := fb5.cell 0
             have e0 := hb6.cell 0
             clear FB EB X
             have X := Lib.hid hx5
             clear hx5
             clear hb5 hb6 ho5 leb nbf nfe fb5))
        refine bodyPostD_ret (v := .tuple #[.slice none 0 0, .int .i64 6]) rfl (by simp [results, Try.results29, go_sem, f0, e0]) (HP.out _ _ ⟨_, m, by rw [← HE.out, HER.out], .inl ⟨by rw [← HE.out, HER.out]; decide, rfl, L0.out.ext X.out⟩, rfl, rfl, .inl rfl, Only.of_ext X.out⟩)
      · have HI := Lib.hid fun (w' : World) => in_q (wrap64 (c - bl)) (-1000000000000) 1000000000000 w'
        rw [nIn_wrap c bl ⟨by omega, hc2⟩ ⟨hbal1, hbal2⟩] at HI
        rcases hn : nIn (c - bl) (-1000000000000) 1000000000000 with _ | _
        · have HER : Hid (er = 6) := by
            rcases HW2.out with ⟨_, h2⟩ | ⟨h2, _⟩
            · exact h2
            · rw [HZF.out (by rw [HR.out, hn, Bool.and_false])] at h2; cases h2
          rw [hn] at HI
          clear hn
          go_quiet ((go_at_call 52; exact Calls.quiet_of_same (HI.out _)))
          have hxq : Ext wr (wr.drewN nq) := Ext.of_drewN _ _
          have hx := HX.out.tr hxq
          replace FB := Lib.hid (FB.out.ext hx)
          replace EB := Lib.hid (EB.out.ext hx)
          replace X := Lib.hid (X.out.ext hx)
          generalize wr.drewN nq = wq at *
          clear hx hxq
          go_wp2_with (first
            | (with_reducible refine wpList_setK (i := 0) (v := .slice none 0 0) rfl rfl FB.out ?_ ?_ ?_ ?_ ?_ ?_ ?_
               · rfl
               · rfl
               · show 0 < 1; omega
               · kernel_rfl
               · rfl
               · rfl
               rintro w5 hb5 ho5
               have hb6 : Blk w5 fb #[.slice none 0 0] 22 := hb5
               have nbf := NBF.out
               have nfe := NFE.out
               have lfb : w.heap.size ≤ fb := Nat.le_trans LB.out (by omega)
               have hx5 := X.out.then_only ho5 (fun k (e : k = fb) => by rw [e]; exact lfb)
               have eb5 := EB.out.only ho5 (by omega)
               clear FB EB X
               have FB := Lib.hid hb6
               have EB := Lib.hid eb5
               have X := Lib.hid hx5
               clear hb6 eb5 hx5
               clear hb5 ho5 lfb nbf nfe)
            | (with_reducible refine wpList_setK (i := 0) (v := .int .i64 6) rfl rfl EB.out ?_ ?_ ?_ ?_ ?_ ?_ ?_
               · rfl
               · rfl
               · show 0 < 1; omega
               · kernel_rfl
               · rfl
               · rfl
               rintro w5 hb5 ho5
               have hb6 : Blk w5 eb #[.int .i64 6] 25 := hb5
               have nbf := NBF.out
               have nfe := NFE.out
               have leb : w.heap.size ≤ eb := Nat.le_trans LB.out (by omega)
               have hx5 := X.out.then_only ho5 (fun k (e : k = eb) => by rw [e]; exact leb)
               have fb5 := FB.out.only ho5 (by omega)
               have f0 := fb5.cell 0
               have e0 := hb6.cell 0
               clear FB EB X
               have X := Lib.hid hx5
               clear hx5
               clear hb5 hb6 ho5 leb nbf nfe fb5))
          refine bodyPostD_ret (v := .tuple #[.slice none 0 0, .int .i64 6]) rfl (by simp [results, Try.results29, go_sem, f0, e0]) (HP.out _ _ ⟨_, m, by rw [← HE.out, HER.out], .inl ⟨by rw [← HE.out, HER.out]; decide, rfl, L0.out.ext X.out⟩, rfl, rfl, .inl rfl, Only.of_ext X.out⟩)
        · rw [hn] at HI
          have HT := Lib.hid (show closeR d (i, c) = true by rw [HR.out, hn, decide_eq_true (by omega)]; rfl)
          clear hn
          go_quiet ((go_at_call 52; exact Calls.quiet_of_same (HI.out _)))
          go_wp2
          go_roundw
          case rel =>
            refine ⟨k + 1, by omega, by go_num, fun q h h' hq => ?_, HX.out.drewN _⟩
            rcases Nat.lt_or_ge q k with hqk | hqk
            · exact HA.out q h h' hqk
            · have : q = k := by omega
              subst this
              rw [← HIC.out.1, ← HIC.out.2]
              exact HT.out
          case measure => simp [intOf]; omega
    · obtain rfl : k = ks.length := by omega
      have HER : Hid (er = (closeF day d [] (ks.zip cs)).2.2) := by
        have HA2 := zip_all_true (p := closeR d) (ks := ks) (cs := cs) fun i h h' => HA.out i h h' h
        rcases HW2.out with ⟨h1, _⟩ | ⟨_, h2⟩
        · rw [HA2] at h1; cases h1
        · exact h2
      have HCR : Hid (∀ i (h : i < ks.length) (h' : i < cs.length), closeR d (ks[i], cs[i]) = true) := fun i h h' => HA.out i h h' h
      have hx := HX.out
      have sk1 := owns_ext SK.out hx
      clear hlt HA HW2 HX SK bc c0 q1 q2 q3
      replace L := Lib.hid (L.out.ext hx)
      replace BB := Lib.hid (BB.out.ext hx)
      replace FB := Lib.hid (FB.out.ext hx)
      replace EB := Lib.hid (EB.out.ext hx)
      replace X := Lib.hid (X.out.ext hx)
      have bc := BB.out.cell 0
      have c0 := L.out.c0
      have SK := Lib.hid sk1
      clear sk1
      clear hx
      go_upto_region 18 with (fail)
      obtain ⟨ae, ce, hve, HSI⟩ := (L.out.sig OK.out.len).form
      go_cut [11, 12] from 75 to 83 (fun v v2 W => ∃ wb nb, v = .pointer (some ⟨wb, 0, none⟩) ∧ v2 = .pointer (some ⟨nb, 0, none⟩) ∧ Hid (Ext wr W ∧ Blk W wb (balC d).toArray 95 ∧ Blk W nb #[.int .i64 d.ents.length] 3 ∧ wr.heap.size ≤ wb ∧ wr.heap.size ≤ nb ∧ wb ≠ nb))
      case first =>
        as_aux_lemma =>
          have hxd : Ext wr wr.drew := (Below.refl _ wr).drew
          have c2 := (L.out.ext hxd).c2
          rw [hve] at c2
          refine wp_region_K (fun wx => wx.cell? ⟨bb, 0, none⟩ = some (.pointer (some ⟨lb, 0, none⟩)) ∧ wx.cell? ⟨lb, 2, none⟩ = some (.slice ae d.ents.length ce) ∧ Blk wx lb (ledA d m) 97) 12 (by kernel_rfl) ⟨hxd.cellSome bc, c2, (L.out.ext hxd).led⟩ (fun hHeld => ?_)
          have XC := Lib.hid hxd
          clear hxd c2 bc c0
          generalize wr.drew = wA at *
          refine wpAnyK_takeL (i := 0) (v := ?_) rfl (by kernel_rfl) (by kernel_rfl) (by kernel_rfl) (by kernel_rfl) (fun _ _ _ h => hQ29 (by decide) h) (Or.inl ⟨by rfl, ?_⟩) hHeld ?_
          rotate_left
          · intro w hSw; (try dsimp only at hSw); go_simp; (try with_reducible rfl)
          try simp only [Act.put, List.setIfInBounds_toArray, List.set_cons_zero, List.set_cons_succ]
          refine wpAnyK_takeL (i := 1) (v := ?_) rfl (by kernel_rfl) (by kernel_rfl) (by kernel_rfl) (by kernel_rfl) (fun _ _ _ h => hQ29 (by decide) h) (Or.inl ⟨by rfl, ?_⟩) hHeld ?_
          rotate_left
          · intro w hSw; (try dsimp only at hSw); go_simp; (try with_reducible rfl)
          try simp only [Act.put, List.setIfInBounds_toArray, List.set_cons_zero, List.set_cons_succ]
          refine wpAnyK_takeL (i := 2) (v := ?_) rfl (by kernel_rfl) (by kernel_rfl) (by kernel_rfl) (by kernel_rfl) (fun _ _ _ h => hQ29 (by decide) h) (Or.inl ⟨by rfl, ?_⟩) hHeld ?_
          rotate_left
          · intro w hSw; (try dsimp only at hSw); go_simp; (try with_reducible rfl)
          try simp only [Act.put, List.setIfInBounds_toArray, List.set_cons_zero, List.set_cons_succ]
          refine wpAnyK_takeL (i := 3) (v := .agg (balC d).toArray) rfl (by kernel_rfl) (by kernel_rfl) (by kernel_rfl) (by kernel_rfl) (fun _ _ _ h => hQ29 (by decide) h) (yieldsIf_load_mid (by rfl) 95 _ rfl lb 3 rfl (balC d) _ (fun w hSw => Blk.range hSw.2.2 _ (ledA_range d m)) t40u rfl (by rw [balC_len]; kernel_rfl)) hHeld ?_
          try simp only [Act.put, List.setIfInBounds_toArray, List.set_cons_zero, List.set_cons_succ]
          refine wpAnyK_takeL (i := 4) (v := ?_) rfl (by kernel_rfl) (by kernel_rfl) (by kernel_rfl) (by kernel_rfl) (fun _ _ _ h => hQ29 (by decide) h) (Or.inl ⟨by rfl, ?_⟩) hHeld ?_
          rotate_left
          · intro w hSw; (try dsimp only at hSw); go_simp; (try with_reducible rfl)
          try simp only [Act.put, List.setIfInBounds_toArray, List.set_cons_zero, List.set_cons_succ]
          refine wpAnyK_takeL (i := 5) (v := ?_) rfl (by kernel_rfl) (by kernel_rfl) (by kernel_rfl) (by kernel_rfl) (fun _ _ _ h => hQ29 (by decide) h) (Or.inl ⟨by rfl, ?_⟩) hHeld ?_
          rotate_left
          · intro w hSw; (try dsimp only at hSw); go_simp; (try with_reducible rfl)
          try simp only [Act.put, List.setIfInBounds_toArray, List.set_cons_zero, List.set_cons_succ]
          refine wpAnyK_takeL (i := 6) (v := ?_) rfl (by kernel_rfl) (by kernel_rfl) (by kernel_rfl) (by kernel_rfl) (fun _ _ _ h => hQ29 (by decide) h) (Or.inl ⟨by rfl, ?_⟩) hHeld ?_
          rotate_left
          · intro w hSw; (try dsimp only at hSw); go_simp; (try with_reducible rfl)
          try simp only [Act.put, List.setIfInBounds_toArray, List.set_cons_zero, List.set_cons_succ]
          refine wpAnyK_takeL (i := 7) (v := ?_) rfl (by kernel_rfl) (by kernel_rfl) (by kernel_rfl) (by kernel_rfl) (fun _ _ _ h => hQ29 (by decide) h) (Or.inl ⟨by rfl, ?_⟩) hHeld ?_
          rotate_left
          · intro w hSw; (try dsimp only at hSw); go_simp; (try with_reducible rfl)
          try simp only [Act.put, List.setIfInBounds_toArray, List.set_cons_zero, List.set_cons_succ]
          refine wpAnyK_takeL (i := 8) (v := ?_) rfl (by kernel_rfl) (by kernel_rfl) (by kernel_rfl) (by kernel_rfl) (fun _ _ _ h => hQ29 (by decide) h) (Or.inl ⟨by rfl, ?_⟩) hHeld ?_
          rotate_left
          · intro w hSw; (try dsimp only at hSw); go_simp; (try with_reducible rfl)
          try simp only [Act.put, List.setIfInBounds_toArray, List.set_cons_zero, List.set_cons_succ]
          have bbl := BB.out.lt
          have lbl := L.out.led.lt
          refine wpAnyK_ready (rs := [9, 10]) (by kernel_rfl) (by simp) ?_
          refine AllReadyK.consL (i := 9) rfl (fun K hK => ?_) ?_
          · refine step_allocA rfl rfl Try.zeroValue95 ?_
            intro wb w2 hb2 hx2 hl2
            have hlw := Nat.le_trans XC.out.size hl2
            have LBW : Hid (bb ≠ wb ∧ lb ≠ wb) := ⟨by omega, by omega⟩
            have hxx := XC.out.tr hx2
            refine hK.out _ _ (fun _ => ⟨hx2.cellSome hHeld.1, hx2.cellSome hHeld.2.1, hHeld.2.2.ext hx2⟩) (fun hHeld2 => ?_)
            clear hK K
            try clear hHeld
            have hHeld := hHeld2 (by decide)
            clear hHeld2
            try simp only [Act.put, List.setIfInBounds_toArray, List.set_cons_zero, List.set_cons_succ]
            refine wpAnyK_ready (rs := [10]) (by kernel_rfl) (by simp) ?_
            refine AllReadyK.consL (i := 10) rfl (fun K hK => ?_) ?_
            · refine step_alloc1 rfl rfl Try.zeroValue3 rfl ?_
              intro nb w3 hb3 hx3 hl3
              have hln := Nat.le_trans hxx.size hl3
              have nwn : wb ≠ nb := by have := hb2.lt; omega
              have hb4 := hb2.ext hx3
              have hxy := hxx.tr hx3
              refine hK.out _ _ (fun _ => ⟨hx3.cellSome hHeld.1, hx3.cellSome hHeld.2.1, hHeld.2.2.ext hx3⟩) (fun hHeld2 => ?_)
              clear hK K
              try clear hHeld
              have hHeld := hHeld2 (by decide)
              clear hHeld2
              try simp only [Act.put, List.setIfInBounds_toArray, List.set_cons_zero, List.set_cons_succ]
              clear XC
              have WB := Lib.hid hb4
              have NB := Lib.hid hb3
              have LW := Lib.hid hlw
              have LN := Lib.hid hln
              have NWN := Lib.hid nwn
              have XC := Lib.hid hxy
              clear hb4 hb3 hlw hln nwn hxy
              refine wpAnyK_ready (rs := [11]) (by kernel_rfl) (by simp) ?_
              refine AllReadyK.consL (i := 11) rfl (fun K hK => ?_) ?_
              · refine step_storeK (cells := (balC d).toArray) rfl rfl WB.out rfl rfl (by rw [List.size_toArray, balC_len]; kernel_rfl) (by rw [show (balC d).toArray.size = 40 by rw [List.size_toArray, balC_len]]; rfl) (all_oneCell_toArray (balC_one d)) ?_
                intro w5 hb5 ho5
                have hx5 := XC.out.then_only ho5 (fun q (e : q = wb) => by rw [e]; exact LW.out)
                have nb5 := NB.out.only ho5 (fun e => NWN.out e.symm)
                have h1 := ho5.cell hHeld.1 (fun e => LBW.out.1 e)
                have h2 := ho5.cell hHeld.2.1 (fun e => LBW.out.2 e)
                have h3 := hHeld.2.2.only ho5 (fun e => LBW.out.2 e)
                refine hK.out _ _ (fun _ => ⟨h1, h2, h3⟩) (fun hHeld2 => ?_)
                clear hK K
                try clear hHeld
                have hHeld := hHeld2 (by decide)
                clear hHeld2
                try simp only [Act.put, List.setIfInBounds_toArray, List.set_cons_zero, List.set_cons_succ]
                refine wpAnyK_ready (rs := [12]) (by kernel_rfl) (by simp) ?_
                refine AllReadyK.consL (i := 12) rfl (fun K hK => ?_) ?_
                · refine step_setK (i := 0) (v := .int .i64 d.ents.length) rfl rfl nb5 rfl rfl (by show 0 < 1; omega) (by kernel_rfl) rfl (by simp [Value.oneCell']) ?_
                  intro w6 hw6 hb6 ho6
                  refine hK.out _ _ (fun h => absurd h (by decide)) (fun hHeld2 => ?_)
                  clear hK K hHeld2
                  try clear hHeld
                  try simp only [Act.put, List.setIfInBounds_toArray, List.set_cons_zero, List.set_cons_succ]
                  refine wpAnyK_done (by kernel_rfl) ?_ _
                  have hx6 := hx5.then_only ho6 (fun q (e : q = nb) => by rw [e]; exact LN.out)
                  have wb6 := Blk.only hb5 ho6 (fun e => NWN.out e)
                  have hb7 : Blk w6 nb #[.int .i64 d.ents.length] 3 := hb6
                  have HX6 := Lib.hid hx6
                  have WB6 := Lib.hid wb6
                  have NB6 := Lib.hid hb7
                  clear hx6 wb6 hb7
                  clear hb6 ho6 hw6 h1 h2 h3 nb5 hx5 ho5 hb5
                  go_wp2
                  go_meet
                  case rel => exact ⟨wb, nb, rfl, rfl, HX6.out, WB6.out, NB6.out, LW.out, LN.out, NWN.out⟩
                · exact AllReadyK.nil
              · exact AllReadyK.nil
            · exact AllReadyK.nil
          · refine AllReadyK.consL (i := 10) rfl (fun K hK => ?_) ?_
            · refine step_alloc1 rfl rfl Try.zeroValue3 rfl ?_
              intro nb w2 hb2 hx2 hl2
              have hln := Nat.le_trans XC.out.size hl2
              have hxx := XC.out.tr hx2
              refine hK.out _ _ (fun _ => ⟨hx2.cellSome hHeld.1, hx2.cellSome hHeld.2.1, hHeld.2.2.ext hx2⟩) (fun hHeld2 => ?_)
              clear hK K
              try clear hHeld
              have hHeld := hHeld2 (by decide)
              clear hHeld2
              try simp only [Act.put, List.setIfInBounds_toArray, List.set_cons_zero, List.set_cons_succ]
              refine wpAnyK_ready (rs := [9]) (by kernel_rfl) (by simp) ?_
              refine AllReadyK.consL (i := 9) rfl (fun K hK => ?_) ?_
              · refine step_allocA rfl rfl Try.zeroValue95 ?_
                intro wb w3 hb3 hx3 hl3
                have hlw := Nat.le_trans hxx.size hl3
                have LBW : Hid (bb ≠ wb ∧ lb ≠ wb) := ⟨by omega, by omega⟩
                have nwn : wb ≠ nb := by have := hb2.lt; omega
                have hb4 := hb2.ext hx3
                have hxy := hxx.tr hx3
                refine hK.out _ _ (fun _ => ⟨hx3.cellSome hHeld.1, hx3.cellSome hHeld.2.1, hHeld.2.2.ext hx3⟩) (fun hHeld2 => ?_)
                clear hK K
                try clear hHeld
                have hHeld := hHeld2 (by decide)
                clear hHeld2
                try simp only [Act.put, List.setIfInBounds_toArray, List.set_cons_zero, List.set_cons_succ]
                clear XC
                have WB := Lib.hid hb3
                have NB := Lib.hid hb4
                have LW := Lib.hid hlw
                have LN := Lib.hid hln
                have NWN := Lib.hid nwn
                have XC := Lib.hid hxy
                clear hb3 hb4 hlw hln nwn hxy
                refine wpAnyK_ready (rs := [11]) (by kernel_rfl) (by simp) ?_
                refine AllReadyK.consL (i := 11) rfl (fun K hK => ?_) ?_
                · refine step_storeK (cells := (balC d).toArray) rfl rfl WB.out rfl rfl (by rw [List.size_toArray, balC_len]; kernel_rfl) (by rw [show (balC d).toArray.size = 40 by rw [List.size_toArray, balC_len]]; rfl) (all_oneCell_toArray (balC_one d)) ?_
                  intro w5 hb5 ho5
                  have hx5 := XC.out.then_only ho5 (fun q (e : q = wb) => by rw [e]; exact LW.out)
                  have nb5 := NB.out.only ho5 (fun e => NWN.out e.symm)
                  have h1 := ho5.cell hHeld.1 (fun e => LBW.out.1 e)
                  have h2 := ho5.cell hHeld.2.1 (fun e => LBW.out.2 e)
                  have h3 := hHeld.2.2.only ho5 (fun e => LBW.out.2 e)
                  refine hK.out _ _ (fun _ => ⟨h1, h2, h3⟩) (fun hHeld2 => ?_)
                  clear hK K
                  try clear hHeld
                  have hHeld := hHeld2 (by decide)
                  clear hHeld2
                  try simp only [Act.put, List.setIfInBounds_toArray, List.set_cons_zero, List.set_cons_succ]
                  refine wpAnyK_ready (rs := [12]) (by kernel_rfl) (by simp) ?_
                  refine AllReadyK.consL (i := 12) rfl (fun K hK => ?_) ?_
                  · refine step_setK (i := 0) (v := .int .i64 d.ents.length) rfl rfl nb5 rfl rfl (by show 0 < 1; omega) (by kernel_rfl) rfl (by simp [Value.oneCell']) ?_
                    intro w6 hw6 hb6 ho6
                    refine hK.out _ _ (fun h => absurd h (by decide)) (fun hHeld2 => ?_)
                    clear hK K hHeld2
                    try clear hHeld
                    try simp only [Act.put, List.setIfInBounds_toArray, List.set_cons_zero, List.set_cons_succ]
                    refine wpAnyK_done (by kernel_rfl) ?_ _
                    have hx6 := hx5.then_only ho6 (fun q (e : q = nb) => by rw [e]; exact LN.out)
                    have wb6 := Blk.only hb5 ho6 (fun e => NWN.out e)
                    have hb7 : Blk w6 nb #[.int .i64 d.ents.length] 3 := hb6
                    have HX6 := Lib.hid hx6
                    have WB6 := Lib.hid wb6
                    have NB6 := Lib.hid hb7
                    clear hx6 wb6 hb7
                    clear hb6 ho6 hw6 h1 h2 h3 nb5 hx5 ho5 hb5
                    go_wp2
                    go_meet
                    case rel => exact ⟨wb, nb, rfl, rfl, HX6.out, WB6.out, NB6.out, LW.out, LN.out, NWN.out⟩
                  · exact AllReadyK.nil
                · exact AllReadyK.nil
              · exact AllReadyK.nil
            · exact AllReadyK.nil
      case rest =>
      obtain ⟨wb, nb, rfl, rfl, HCUT⟩ := hcut
      have hcl0 : CL w wc wc B lb bb fb eb wb nb d d m m (.slice avs ks.length cvs) (.slice ac cs.length cc) (.slice none 0 0) (ks.map fun i : Nat => (i : Int)) cs [] := by
        obtain ⟨hx, h1, h2, h3, h4, h5⟩ := HCUT.out
        have sk1 := owns_ext SK.out hx
        have e1 := L.out.led.lt
        have e2 := NBF.out
        have e3 := NFE.out
        have e4 := LB.out
        have e5 := BB.out.lt
        have e6 := FB.out.lt
        have e7 := EB.out.lt
        have e8 := h1.lt
        have e9 := h2.lt
        have e10 := L0.out.led.lt
        have e11 := L0.out.acc.lt
        have e12 := ws.out
        have e13 := esz.out
        have hvl : ∀ b, (Value.slice ae d.ents.length ce).ownBlock = some b → b < w.heap.size := fun b hb => (L0.out.ents.lt b (by rw [hve]; exact hb)).2
        refine ⟨L.out.ext hx, BB.out.ext hx, FB.out.ext hx, EB.out.ext hx, h1, h2, World.ownsRow_nil _ _ _ _, ?_, (HC.out.ext X.out).ext hx, rfl, rfl, .inl rfl, ?_, fun b hb => (by cases hb), Only.of_ext (X.out.tr hx), Nat.le_refl _, ⟨by omega, by omega, by omega, by omega, by omega, by omega, h5, e8, e9⟩, ⟨by omega, NV.out⟩, fun b hb => ⟨(NVC.out b hb).1, (NVC.out b hb).2.2⟩, fun b hb => ?_⟩
        · unfold Ints
          rw [List.map_map]
          exact Sl.of_owns sk1
        · intro b hb
          have h6 := hvl b (by rw [← hve]; exact hb)
          refine ⟨by omega, by omega, by omega, by omega, by omega, fun e => ?_, fun e => (NVC.out b e).2.1 hb⟩
          have := (SK.out.lt b e).1
          omega
        · have h7 := SK.out.lt b hb
          refine ⟨by omega, by omega, by omega, ?_⟩
          have := hx.size
          omega
      have hw0 : w.heap.size ≤ wc.heap.size := Nat.le_trans X.out.size HCUT.out.1.size
      obtain ⟨W0, hW0⟩ : ∃ W, W = wc := ⟨wc, rfl⟩
      rw [← hW0] at hw0
      have HCL : Hid (CL w W0 wc B lb bb fb eb wb nb d d m m (.slice avs ks.length cvs) (.slice ac cs.length cc) (.slice none 0 0) (ks.map fun i : Nat => (i : Int)) cs []) := by rw [hW0]; exact hcl0
      have HW0 := Lib.hid hw0
      clear hw0
      clear hcl0 hW0 HCUT SK L BB FB EB X bc c0 hve HSI HC
      have hmf : ∀ (fn : Fn) (first cap : Array Value) (w : World), (Instr.makeFunc fn first cap).run Try.prog w = .ok (.func fn first cap) w := fun _ _ _ _ => rfl
      go_upto_region 21 with (fail)
      clear hmf
      go_loopw [87] (fun t wr => ∃ k : Nat, k ≤ ks.length ∧ t = .int .i64 k ∧ ∃ d' m' vd ds, Hid (CL w W0 wr B lb bb fb eb wb nb d d' m m' (.slice avs ks.length cvs) (.slice ac cs.length cc) vd (ks.map fun i : Nat => (i : Int)) cs ds) ∧ Hid (LedOk d') ∧ Hid (d'.acc = d.acc ∧ d'.key = d.key ∧ d'.closed = d.closed ∧ d'.ents.take d.ents.length = d.ents) ∧ Hid (closeF day d [] (ks.zip cs) = closeF day d' ds ((ks.zip cs).drop k)) ∧ ds.length ≤ k) (fun t _ => ks.length - (intOf t).toNat)
      case atStart => exact ⟨0, Nat.zero_le _, rfl, d, m, _, [], HCL, OK, ⟨rfl, rfl, rfl, by simp⟩, rfl, Nat.le_refl _⟩
      case round =>
        clear HCL
        obtain ⟨k, hk, rfl, d', m', vd, ds, HCL, HOK, HSM, HF, hdl⟩ := hrel
        obtain ⟨avd, cvd, rfl⟩ := row_form HCL.out.dif
        by_cases hlt : k < ks.length
        · have hml : (ks.map fun i : Nat => (i : Int)).length = ks.length := by simp
          obtain ⟨gs, os, hgs, hsc⟩ := HCL.out.sk.cells (by omega)
          obtain ⟨b2, o2, hac, hcc⟩ := HCL.out.ci.cells (by omega)
          subst hgs hac
          have hi40 : ks[k] < d.acc.length := HKM.out _ (List.getElem_mem hlt)
          have hmem : ks[k] ∈ d.stk := HKS.out ▸ List.getElem_mem hlt
          have sk1 := hsc k (by omega)
          rw [List.getElem_map] at sk1
          have ci1 := hcc k (by omega)
          have hzd := zip_drop (ks := ks) (cs := cs) k hlt (by omega)
          have hcr := HCR.out k hlt (by omega)
          obtain ⟨i, hi⟩ : ∃ i, i = ks[k] := ⟨_, rfl⟩
          obtain ⟨c, hcc2⟩ : ∃ c, c = cs[k] := ⟨_, rfl⟩
          rw [← hi] at hi40 sk1 hzd hcr hmem
          rw [← hcc2] at ci1 hzd hcr
          have bc := HCL.out.bx.cell 0
          have fc := HCL.out.fx.cell 0
          have cb1 := HCL.out.led.cb i (by omega)
          have hbal := HOK.out.bal i
          have hbal0 := OK.out.bal i
          have hf := HF.out
          rw [hzd] at hf
          obtain ⟨bl, hbl⟩ : ∃ b, b = balA (i : Int) d'.ents := ⟨_, rfl⟩
          rw [← hbl] at hbal cb1
          rw [closeF_cons, ← hbl] at hf
          unfold closeR at hcr
          rw [Bool.and_eq_true, decide_eq_true_eq, nIn_iff] at hcr
          dsimp only at hcr
          obtain ⟨hc0, hc1, hc2⟩ := hcr
          obtain ⟨hb1, hb2⟩ := hbal
          obtain ⟨hb3, hb4⟩ := hbal0
          obtain ⟨df, hdf⟩ : ∃ x, x = c - bl := ⟨_, rfl⟩
          rw [← hdf] at hf
          have HWR := Lib.hid (show wrap64 (c - bl) = df by rw [hdf]; unfold wrap64; omega)
          have hd1 : -20000000000000000 ≤ df ∧ df ≤ 20000000000000000 := by omega
          obtain ⟨hd1, hd2⟩ := hd1
          have j1 : (0:Int) ≤ (k:Int) := by omega
          have j2 : (k:Int) < (ks.length:Int) := by omega
          have j3 : (k:Int) < (cs.length:Int) := by omega
          have i1 : (0:Int) ≤ (i:Int) := by omega
          have i2 : (i:Int) < 40 := by omega
          have i3 : (i:Int) < (d.acc.length:Int) := by omega
          have HBL := Lib.hid hbl
          have HDF := Lib.hid hdf
          have HF2 := Lib.hid hf
          have HMEM := Lib.hid hmem
          have HI40 := Lib.hid hi40
          clear hf hmem hi40
          clear hsc hcc hzd hi hcc2 hml HF hbl hc1 hc2 hb3 hb4 hdf
          go_upto_region 23 with (fail)
          go_quiet (fail)
          rw [HWR.out]
          clear HWR
          replace HCL := Lib.hid (HCL.out.ext (Ext.of_drewN wr nq))
          generalize wr.drewN nq = wq at *
          clear bc fc cb1 sk1 ci1
          have bc := HCL.out.bx.cell 0
          have fc := HCL.out.fx.cell 0
          go_upto_region 25 with (first
            | (at_builtin
               refine wpList_app tInts rfl rfl (v := .slice avd ds.length cvd) rfl (owns_ext HCL.out.dif (ext_lit _ _ _)) rfl (Src.lit _ [.int .i64 df] 1 1 rfl 3 1) (by simp [Value.oneCell']) (by omega) (Nat.le_trans HCL.out.sz (by simp)) ?_
               rintro vd2 w6 h1 h2 h3
               have hca := HCL.out.ext (ext_lit wq #[.int .i64 df] 3)
               have fb6 := hca.fx.only (only_grown h2) (fun hk => by have q1 := (hca.dif.lt _ hk).1; have q2 := hca.far; omega)
               obtain ⟨av2, cv2, rfl⟩ := row_form h1
               clear HCL bc fc
               have HCA := Lib.hid hca
               have H1 := Lib.hid h1
               have H2 := Lib.hid h2
               have H3 := Lib.hid h3
               have FB6 := Lib.hid fb6
               clear hca h1 h2 h3 fb6)
            | (with_reducible refine wpList_setK (i := 0) (v := .slice av2 (ds.length + 1) cv2) rfl rfl FB6.out ?_ ?_ ?_ ?_ ?_ ?_ ?_
               · rfl
               · rfl
               · show 0 < 1; omega
               · kernel_rfl
               · rfl
               · rfl
               rintro w7 hb7 ho7
               have hb8 : Blk w7 fb #[.slice av2 (ds.length + 1) cv2] 22 := hb7
               have hcl7 := HCA.out.pushed (x := df) H1.out H2.out H3.out hb8 ho7
               clear HCA H1 H2 H3 FB6 hb7 hb8 ho7
               have HCL := Lib.hid hcl7
               clear hcl7))
          have hacc : d'.acc = d.acc := HSM.out.1
          obtain ⟨aa, ca, hva, HAR⟩ := HCL.out.led.row.form
          rw [hacc] at hva
          obtain ⟨ba, oa, haa, hca⟩ := HAR.out.cells (by rw [hacc]; omega)
          have ag1 := (hca i (by rw [hacc]; exact HI40.out)).1
          have hgi : (d'.acc[i]'(by rw [hacc]; exact HI40.out)).good = (d'.at' (i:Int)).good := by
            have : i < d'.acc.length := by rw [hacc]; exact HI40.out
            simp [LedD.at', List.getD, this]
          rw [hgi] at ag1
          obtain ⟨gd, hgd⟩ : ∃ g, g = (d'.at' (i:Int)).good := ⟨_, rfl⟩
          rw [← hgd] at ag1
          obtain ⟨lo, hlo⟩ : ∃ z, z = lossI d'.acc gd := ⟨_, rfl⟩
          have hlr := lossI_range d'.acc gd
          rw [← hlo, hacc] at hlr
          have hxe : closeX d' i df day = if 0 < df then ⟨lo, i, df, day⟩ else ⟨i, lo, -df, day⟩ := by unfold closeX; rw [← hgd, ← hlo]
          have bc := HCL.out.bx.cell 0
          have c0 := HCL.out.led.c0
          have cav := HCL.out.led.ca
          rw [hva, haa] at cav
          have HLS := Lib.hid fun w8 (k8 : Ext w7 w8) => loss_any d'.acc m'.va m'.ab gd w8 (k8.cellSome HCL.out.led.ca) (HCL.out.led.row.ext k8)
          rw [← hlo] at HLS
          have HXE := Lib.hid hxe
          have HLR := Lib.hid hlr
          clear hxe hlr
          clear hca hgi hgd hlo haa HAR hva
          go_upto_region 25 with (fail)
          simp only [Act.put, List.setIfInBounds_toArray, List.set_cons_zero, List.set_cons_succ]
          go_cut [16] from 107 to 127 (fun v W => ∃ xb, v = .pointer (some ⟨xb, 0, none⟩) ∧ Hid (Ext w7 W ∧ Blk W xb #[.int .i64 i, .int .i64 lo, .int .i64 (-df), .int .i64 day] 60 ∧ w7.heap.size ≤ xb))
          case first =>
            as_aux_lemma =>
              have hxd : Ext w7 w7.drew := (Below.refl _ w7).drew
              have HSS : Hid (∀ wX, Ext w7 wX → wX.cell? ⟨bb, 0, none⟩ = some (.pointer (some ⟨lb, 0, none⟩)) ∧ wX.cell? ⟨lb, 0, none⟩ = some (.pointer (some ⟨m'.ab, 0, none⟩)) ∧ wX.cell? ⟨m'.ab, 0, none⟩ = some (.slice (some ⟨ba, oa, none⟩) d.acc.length ca) ∧ wX.cell? ⟨ba, oa + i * 2, none⟩ = some (.int .i64 gd)) := fun wX k => ⟨k.cellSome bc, k.cellSome c0, k.cellSome cav, k.cellSome ag1⟩
              refine wp_region_K (fun wx => wx.cell? ⟨bb, 0, none⟩ = some (.pointer (some ⟨lb, 0, none⟩)) ∧ wx.cell? ⟨lb, 0, none⟩ = some (.pointer (some ⟨m'.ab, 0, none⟩)) ∧ wx.cell? ⟨m'.ab, 0, none⟩ = some (.slice (some ⟨ba, oa, none⟩) d.acc.length ca) ∧ wx.cell? ⟨ba, oa + i * 2, none⟩ = some (.int .i64 gd)) 22 (by kernel_rfl) (HSS.out _ hxd) (fun hHeld => ?_)
              have XC := Lib.hid hxd
              clear hxd bc c0 cav ag1
              generalize w7.drew = wA at *
              refine wpAnyK_takeL (i := 0) (v := ?_) rfl (by kernel_rfl) (by kernel_rfl) (by kernel_rfl) (by kernel_rfl) (fun _ _ _ h => hQ29 (by decide) h) (Or.inl ⟨by rfl, ?_⟩) hHeld ?_
              rotate_left
              · intro w hSw; (try dsimp only at hSw); go_simp; (try with_reducible rfl)
              try simp only [Act.put, List.setIfInBounds_toArray, List.set_cons_zero, List.set_cons_succ]
              refine wpAnyK_takeL (i := 1) (v := ?_) rfl (by kernel_rfl) (by kernel_rfl) (by kernel_rfl) (by kernel_rfl) (fun _ _ _ h => hQ29 (by decide) h) (Or.inl ⟨by rfl, ?_⟩) hHeld ?_
              rotate_left
              · intro w hSw; (try dsimp only at hSw); go_simp; (try with_reducible rfl)
              try simp only [Act.put, List.setIfInBounds_toArray, List.set_cons_zero, List.set_cons_succ]
              refine wpAnyK_takeL (i := 2) (v := ?_) rfl (by kernel_rfl) (by kernel_rfl) (by kernel_rfl) (by kernel_rfl) (fun _ _ _ h => hQ29 (by decide) h) (Or.inl ⟨by rfl, ?_⟩) hHeld ?_
              rotate_left
              · intro w hSw; (try dsimp only at hSw); go_simp; (try with_reducible rfl)
              try simp only [Act.put, List.setIfInBounds_toArray, List.set_cons_zero, List.set_cons_succ]
              refine wpAnyK_takeL (i := 3) (v := ?_) rfl (by kernel_rfl) (by kernel_rfl) (by kernel_rfl) (by kernel_rfl) (fun _ _ _ h => hQ29 (by decide) h) (Or.inl ⟨by rfl, ?_⟩) hHeld ?_
              rotate_left
              · intro w hSw; (try dsimp only at hSw); go_simp; (try with_reducible rfl)
              try simp only [Act.put, List.setIfInBounds_toArray, List.set_cons_zero, List.set_cons_succ]
              refine wpAnyK_takeL (i := 4) (v := ?_) rfl (by kernel_rfl) (by kernel_rfl) (by kernel_rfl) (by kernel_rfl) (fun _ _ _ h => hQ29 (by decide) h) (Or.inl ⟨by rfl, ?_⟩) hHeld ?_
              rotate_left
              · intro w hSw; (try dsimp only at hSw); go_simp; (try with_reducible rfl)
              try simp only [Act.put, List.setIfInBounds_toArray, List.set_cons_zero, List.set_cons_succ]
              refine wpAnyK_takeL (i := 5) (v := ?_) rfl (by kernel_rfl) (by kernel_rfl) (by kernel_rfl) (by kernel_rfl) (fun _ _ _ h => hQ29 (by decide) h) (Or.inl ⟨by rfl, ?_⟩) hHeld ?_
              rotate_left
              · intro w hSw; (try dsimp only at hSw); go_simp; (try with_reducible rfl)
              try simp only [Act.put, List.setIfInBounds_toArray, List.set_cons_zero, List.set_cons_succ]
              refine wpAnyK_takeL (i := 6) (v := ?_) rfl (by kernel_rfl) (by kernel_rfl) (by kernel_rfl) (by kernel_rfl) (fun _ _ _ h => hQ29 (by decide) h) (Or.inl ⟨by rfl, ?_⟩) hHeld ?_
              rotate_left
              · intro w hSw; (try dsimp only at hSw); go_simp; (try with_reducible rfl)
              try simp only [Act.put, List.setIfInBounds_toArray, List.set_cons_zero, List.set_cons_succ]
              refine wpAnyK_takeL (i := 7) (v := ?_) rfl (by kernel_rfl) (by kernel_rfl) (by kernel_rfl) (by kernel_rfl) (fun _ _ _ h => hQ29 (by decide) h) (Or.inl ⟨by rfl, ?_⟩) hHeld ?_
              rotate_left
              · intro w hSw; (try dsimp only at hSw); go_simp; (try with_reducible rfl)
              try simp only [Act.put, List.setIfInBounds_toArray, List.set_cons_zero, List.set_cons_succ]
              refine wpAnyK_takeL (i := 8) (v := ?_) rfl (by kernel_rfl) (by kernel_rfl) (by kernel_rfl) (by kernel_rfl) (fun _ _ _ h => hQ29 (by decide) h) (Or.inl ⟨by rfl, ?_⟩) hHeld ?_
              rotate_left
              · intro w hSw; (try dsimp only at hSw); go_simp; (try with_reducible rfl)
              try simp only [Act.put, List.setIfInBounds_toArray, List.set_cons_zero, List.set_cons_succ]
              refine wpAnyK_takeL (i := 9) (v := ?_) rfl (by kernel_rfl) (by kernel_rfl) (by kernel_rfl) (by kernel_rfl) (fun _ _ _ h => hQ29 (by decide) h) (Or.inl ⟨by rfl, ?_⟩) hHeld ?_
              rotate_left
              · intro w hSw; (try dsimp only at hSw); go_simp; (try with_reducible rfl)
              try simp only [Act.put, List.setIfInBounds_toArray, List.set_cons_zero, List.set_cons_succ]
              refine wpAnyK_takeL (i := 10) (v := ?_) rfl (by kernel_rfl) (by kernel_rfl) (by kernel_rfl) (by kernel_rfl) (fun _ _ _ h => hQ29 (by decide) h) (Or.inl ⟨by rfl, ?_⟩) hHeld ?_
              rotate_left
              · intro w hSw; (try dsimp only at hSw); go_simp; (try with_reducible rfl)
              try simp only [Act.put, List.setIfInBounds_toArray, List.set_cons_zero, List.set_cons_succ]
              refine wpAnyK_takeL (i := 11) (v := ?_) rfl (by kernel_rfl) (by kernel_rfl) (by kernel_rfl) (by kernel_rfl) (fun _ _ _ h => hQ29 (by decide) h) (Or.inl ⟨by rfl, ?_⟩) hHeld ?_
              rotate_left
              · intro w hSw; (try dsimp only at hSw); go_simp; (try with_reducible rfl)
              try simp only [Act.put, List.setIfInBounds_toArray, List.set_cons_zero, List.set_cons_succ]
              refine wpAnyK_takeL (i := 12) (v := ?_) rfl (by kernel_rfl) (by kernel_rfl) (by kernel_rfl) (by kernel_rfl) (fun _ _ _ h => hQ29 (by decide) h) (Or.inl ⟨by rfl, ?_⟩) hHeld ?_
              rotate_left
              · intro w hSw; (try dsimp only at hSw); go_simp; (try with_reducible rfl)
              try simp only [Act.put, List.setIfInBounds_toArray, List.set_cons_zero, List.set_cons_succ]
              refine wpAnyK_takeL (i := 13) (v := ?_) rfl (by kernel_rfl) (by kernel_rfl) (by kernel_rfl) (by kernel_rfl) (fun _ _ _ h => hQ29 (by decide) h) (Or.inl ⟨by rfl, ?_⟩) hHeld ?_
              rotate_left
              · intro w hSw; (try dsimp only at hSw); go_simp; (try with_reducible rfl)
              try simp only [Act.put, List.setIfInBounds_toArray, List.set_cons_zero, List.set_cons_succ]
              refine wpAnyK_takeL (i := 14) (v := ?_) rfl (by kernel_rfl) (by kernel_rfl) (by kernel_rfl) (by kernel_rfl) (fun _ _ _ h => hQ29 (by decide) h) (Or.inl ⟨by rfl, ?_⟩) hHeld ?_
              rotate_left
              · intro w hSw; (try dsimp only at hSw); go_simp; (try with_reducible rfl)
              try simp only [Act.put, List.setIfInBounds_toArray, List.set_cons_zero, List.set_cons_succ]
              refine wpAnyK_takeL (i := 15) (v := ?_) rfl (by kernel_rfl) (by kernel_rfl) (by kernel_rfl) (by kernel_rfl) (fun _ _ _ h => hQ29 (by decide) h) (Or.inl ⟨by rfl, ?_⟩) hHeld ?_
              rotate_left
              · intro w hSw; (try dsimp only at hSw); go_simp; (try with_reducible rfl)
              try simp only [Act.put, List.setIfInBounds_toArray, List.set_cons_zero, List.set_cons_succ]
              refine wpAnyK_takeL (i := 17) (v := ?_) rfl (by kernel_rfl) (by kernel_rfl) (by kernel_rfl) (by kernel_rfl) (fun _ _ _ h => hQ29 (by decide) h) (Or.inl ⟨by rfl, ?_⟩) hHeld ?_
              rotate_left
              · intro w hSw; (try dsimp only at hSw); go_simp; (try with_reducible rfl)
              try simp only [Act.put, List.setIfInBounds_toArray, List.set_cons_zero, List.set_cons_succ]
              refine wpAnyK_takeL (i := 18) (v := ?_) rfl (by kernel_rfl) (by kernel_rfl) (by kernel_rfl) (by kernel_rfl) (fun _ _ _ h => hQ29 (by decide) h) (Or.inl ⟨by rfl, ?_⟩) hHeld ?_
              rotate_left
              · intro w hSw; (try dsimp only at hSw); go_simp; (try with_reducible rfl)
              try simp only [Act.put, List.setIfInBounds_toArray, List.set_cons_zero, List.set_cons_succ]
              refine wpAnyK_takeL (i := 19) (v := ?_) rfl (by kernel_rfl) (by kernel_rfl) (by kernel_rfl) (by kernel_rfl) (fun _ _ _ h => hQ29 (by decide) h) (Or.inl ⟨by rfl, ?_⟩) hHeld ?_
              rotate_left
              · intro w hSw; (try dsimp only at hSw); go_simp; (try with_reducible rfl)
              try simp only [Act.put, List.setIfInBounds_toArray, List.set_cons_zero, List.set_cons_succ]
              refine wpAnyK_ready (rs := [16, 21]) (by kernel_rfl) (by simp) ?_
              refine AllReadyK.consL (i := 16) rfl (fun K hK => ?_) ?_
              · refine step_call (vs := #[.pointer (some ⟨m'.ab, 0, none⟩), .int .i64 gd]) rfl rfl rfl Try.func65 (by kernel_rfl) (by kernel_rfl) (HLS.out _ XC.out) ?_
                rintro e wy ⟨rfl, hx⟩
                refine ⟨_, rfl, ?_⟩
                have hxy := XC.out.tr hx
                refine hK.out _ _ (fun _ => (HSS.out _ hxy)) (fun hHeld2 => ?_)
                clear hK K
                try clear hHeld
                have hHeld := hHeld2 (by decide)
                clear hHeld2
                try simp only [Act.put, List.setIfInBounds_toArray, List.set_cons_zero, List.set_cons_succ]
                clear XC hx
                have XC := Lib.hid hxy
                clear hxy
                refine wpAnyK_takeL (i := 20) (v := ?_) rfl (by kernel_rfl) (by kernel_rfl) (by kernel_rfl) (by kernel_rfl) (fun _ _ _ h => hQ29 (by decide) h) (Or.inl ⟨by rfl, ?_⟩) hHeld ?_
                rotate_left
                · intro w hSw; (try dsimp only at hSw); go_simp; (try with_reducible rfl)
                try simp only [Act.put, List.setIfInBounds_toArray, List.set_cons_zero, List.set_cons_succ]
                refine wpAnyK_ready (rs := [21]) (by kernel_rfl) (by simp) ?_
                refine AllReadyK.consL (i := 21) rfl (fun K hK => ?_) ?_
                · refine step_allocA rfl rfl Try.zeroValue60 ?_
                  intro xb wz hbz hxz hlz
                  have hlx := Nat.le_trans XC.out.size hlz
                  have hxy := XC.out.tr hxz
                  refine hK.out _ _ (fun _ => (HSS.out _ hxy)) (fun hHeld2 => ?_)
                  clear hK K
                  try clear hHeld
                  have hHeld := hHeld2 (by decide)
                  clear hHeld2
                  try simp only [Act.put, List.setIfInBounds_toArray, List.set_cons_zero, List.set_cons_succ]
                  clear XC hxz hlz
                  have XC := Lib.hid hxy
                  have LX := Lib.hid hlx
                  have XB := Lib.hid hbz
                  clear hxy hlx hbz
                  refine wpAnyK_ready (rs := [22]) (by kernel_rfl) (by simp) ?_
                  refine AllReadyK.consL (i := 22) rfl (fun K hK => ?_) ?_
                  · refine step_storeK (cells := #[.int .i64 i, .int .i64 lo, .int .i64 (IntKind.i64.wrap (-df)), .int .i64 day]) rfl rfl XB.out rfl rfl (by kernel_rfl) rfl (by simp [Value.oneCell']) ?_
                    intro w9 hb9 ho9
                    rw [i64_eq (-df) ⟨by omega, by omega⟩] at hb9
                    refine hK.out _ _ (fun h => absurd h (by decide)) (fun hHeld2 => ?_)
                    clear hK K hHeld2
                    try clear hHeld
                    try simp only [Act.put, List.setIfInBounds_toArray, List.set_cons_zero, List.set_cons_succ]
                    refine wpAnyK_done (by kernel_rfl) ?_ _
                    have hx9 := XC.out.then_only ho9 (fun q (e : q = xb) => by rw [e]; exact LX.out)
                    have HX9 := Lib.hid hx9
                    have HB9 := Lib.hid hb9
                    clear hx9 hb9
                    clear ho9
                    go_wp2
                    go_meet
                    case rel => exact ⟨xb, rfl, HX9.out, HB9.out, LX.out⟩
                  · exact AllReadyK.nil
                · exact AllReadyK.nil
              · refine AllReadyK.consL (i := 21) rfl (fun K hK => ?_) ?_
                · refine step_allocA rfl rfl Try.zeroValue60 ?_
                  intro xb wz hbz hxz hlz
                  have hlx := Nat.le_trans XC.out.size hlz
                  have hxy := XC.out.tr hxz
                  refine hK.out _ _ (fun _ => (HSS.out _ hxy)) (fun hHeld2 => ?_)
                  clear hK K
                  try clear hHeld
                  have hHeld := hHeld2 (by decide)
                  clear hHeld2
                  try simp only [Act.put, List.setIfInBounds_toArray, List.set_cons_zero, List.set_cons_succ]
                  clear XC hxz hlz
                  have XC := Lib.hid hxy
                  have LX := Lib.hid hlx
                  have XB := Lib.hid hbz
                  clear hxy hlx hbz
                  refine wpAnyK_ready (rs := [16]) (by kernel_rfl) (by simp) ?_
                  refine AllReadyK.consL (i := 16) rfl (fun K hK => ?_) ?_
                  · refine step_call (vs := #[.pointer (some ⟨m'.ab, 0, none⟩), .int .i64 gd]) rfl rfl rfl Try.func65 (by kernel_rfl) (by kernel_rfl) (HLS.out _ XC.out) ?_
                    rintro e wy ⟨rfl, hx⟩
                    refine ⟨_, rfl, ?_⟩
                    have hxy := XC.out.tr hx
                    refine hK.out _ _ (fun _ => (HSS.out _ hxy)) (fun hHeld2 => ?_)
                    clear hK K
                    try clear hHeld
                    have hHeld := hHeld2 (by decide)
                    clear hHeld2
                    try simp only [Act.put, List.setIfInBounds_toArray, List.set_cons_zero, List.set_cons_succ]
                    replace XB := Lib.hid (XB.out.ext hx)
                    clear XC hx
                    have XC := Lib.hid hxy
                    clear hxy
                    refine wpAnyK_takeL (i := 20) (v := ?_) rfl (by kernel_rfl) (by kernel_rfl) (by kernel_rfl) (by kernel_rfl) (fun _ _ _ h => hQ29 (by decide) h) (Or.inl ⟨by rfl, ?_⟩) hHeld ?_
                    rotate_left
                    · intro w hSw; (try dsimp only at hSw); go_simp; (try with_reducible rfl)
                    try simp only [Act.put, List.setIfInBounds_toArray, List.set_cons_zero, List.set_cons_succ]
                    refine wpAnyK_ready (rs := [22]) (by kernel_rfl) (by simp) ?_
                    refine AllReadyK.consL (i := 22) rfl (fun K hK => ?_) ?_
                    · refine step_storeK (cells := #[.int .i64 i, .int .i64 lo, .int .i64 (IntKind.i64.wrap (-df)), .int .i64 day]) rfl rfl XB.out rfl rfl (by kernel_rfl) rfl (by simp [Value.oneCell']) ?_
                      intro w9 hb9 ho9
                      rw [i64_eq (-df) ⟨by omega, by omega⟩] at hb9
                      refine hK.out _ _ (fun h => absurd h (by decide)) (fun hHeld2 => ?_)
                      clear hK K hHeld2
                      try clear hHeld
                      try simp only [Act.put, List.setIfInBounds_toArray, List.set_cons_zero, List.set_cons_succ]
                      refine wpAnyK_done (by kernel_rfl) ?_ _
                      have hx9 := XC.out.then_only ho9 (fun q (e : q = xb) => by rw [e]; exact LX.out)
                      have HX9 := Lib.hid hx9
                      have HB9 := Lib.hid hb9
                      clear hx9 hb9
                      clear ho9
                      go_wp2
                      go_meet
                      case rel => exact ⟨xb, rfl, HX9.out, HB9.out, LX.out⟩
                    · exact AllReadyK.nil
                  · exact AllReadyK.nil
                · exact AllReadyK.nil
          case rest =>
          obtain ⟨xb, rfl, HCUT⟩ := hcut
          obtain ⟨hx7, hb7, hl7⟩ := HCUT.out
          have x1 := hb7.cell 1
          have HC7 := HCL
          clear HCUT HCL bc c0 cav ag1 HLS
          obtain ⟨w8, rfl⟩ : ∃ W, W = wc := ⟨wc, rfl⟩
          have XB := Lib.hid hb7
          have LX := Lib.hid hl7
          have HX7 := Lib.hid hx7
          clear hb7 hl7 hx7
          go_upto_if 129 with (fail)
          go_cut [16] from 130 to 135 (fun v W => v = .pointer (some ⟨xb, 0, none⟩) ∧ Hid (CL w W0 W B lb bb fb eb wb nb d d' m m' (.slice (some ⟨gs, os, none⟩) ks.length cvs) (.slice (some ⟨b2, o2, none⟩) cs.length cc) (.slice av2 (ds.length + 1) cv2) (ks.map fun i : Nat => (i : Int)) cs (ds ++ [df]) ∧ Blk W xb #[.int .i64 (closeX d' i df day).frm, .int .i64 (closeX d' i df day).to, .int .i64 (closeX d' i df day).amt, .int .i64 (closeX d' i df day).day] 60))
          case first =>
            by_cases hpos : 0 < df
            · have hx2 := HXE.out.trans (if_pos hpos)
              have HXX := Lib.hid hx2
              clear hx2
              go_wp2_with (
                with_reducible refine wpList_storeK (cells := #[.int .i64 lo, .int .i64 i, .int .i64 df, .int .i64 day]) rfl rfl XB.out ?_ ?_ ?_ ?_ ?_ ?_
                · rfl
                · rfl
                · kernel_rfl
                · rfl
                · simp [Value.oneCell']
                rintro w9 hb9 ho9
                have hx9 := HX7.out.then_only ho9 (fun q (e : q = xb) => by rw [e]; exact LX.out)
                have hcl9 := HC7.out.ext hx9
                clear XB x1
                have HCL := Lib.hid hcl9
                have XB := Lib.hid hb9
                clear hcl9 hb9
                clear ho9 hx9)
              go_meet
              case rel => exact ⟨rfl, HCL.out, by rw [HXX.out]; exact XB.out⟩
            · have HXX := Lib.hid (HXE.out.trans (if_neg hpos))
              go_wp2
              go_meet
              case rel => exact ⟨rfl, HC7.out.ext HX7.out, by rw [HXX.out]; exact XB.out⟩
          case rest =>
          obtain ⟨rfl, HCUT⟩ := hcut
          obtain ⟨hcl9, hb9⟩ := HCUT.out
          clear HCUT HC7 XB x1
          obtain ⟨w9, rfl⟩ : ∃ W, W = wc := ⟨wc, rfl⟩
          have HCL := Lib.hid hcl9
          clear hcl9
          have x0 := hb9.cell 0
          have x1 := hb9.cell 1
          have x2 := hb9.cell 2
          have x3 := hb9.cell 3
          have bc := HCL.out.bx.cell 0
          have hfit : (closeX d' i df day).fits := by
            have := HLR.out
            rw [HXE.out]
            split
            · exact (show I64 lo ∧ I64 (i:Int) ∧ I64 df ∧ I64 day from ⟨⟨by omega, by omega⟩, ⟨by omega, by omega⟩, ⟨by omega, by omega⟩, hd⟩)
            · exact (show I64 (i:Int) ∧ I64 lo ∧ I64 (-df) ∧ I64 day from ⟨⟨by omega, by omega⟩, ⟨by omega, by omega⟩, ⟨by omega, by omega⟩, hd⟩)
          have hf := HF2.out
          obtain ⟨x, hxx⟩ : ∃ x, x = closeX d' i df day := ⟨_, rfl⟩
          rw [← hxx] at x0 x1 x2 x3 hfit hf
          have HPO := Lib.hid (post_any B lb d' m' x w9 HCL.out.led HOK.out (Nat.le_trans hB HCL.out.only.size) hfit)
          obtain ⟨xf, xt, xa, xd⟩ := x
          unfold entV at HPO
          dsimp only at x0 x1 x2 x3 HPO
          have HF3 := Lib.hid hf
          clear hf
          clear hxx HXE hfit HF2 hb9 HLR
          by_cases hz : df = 0
          · have hf := HF3.out
            rw [if_pos hz] at hf
            have HF4 := Lib.hid hf
            clear hf HF3 HPO
            subst hz
            go_wp2
            go_roundw
            case rel => exact ⟨k + 1, by omega, by go_num, d', m', _, ds ++ [0], HCL, HOK, HSM, HF4, by simp; omega⟩
            case measure => simp [intOf]; omega
          · have hz2 : (df != 0) = true := by simpa using hz
            have hf := HF3.out
            rw [if_neg hz] at hf
            clear hz HF3
            by_cases hpe : postErr d' ⟨xf, xt, xa, xd⟩ = 0
            · rw [if_neg (fun h => h hpe)] at hf
              have HF4 := Lib.hid hf
              have HPE := Lib.hid hpe
              clear hf hpe
              go_wp2_with (
                go_at_call 31
                refine HPO.out.mono ?_
                rintro e w10 hp
                obtain ⟨rfl, v', hl10, hf10, ho10⟩ := hp.good HPE.out
                have hcl10 := HCL.out.posted HW0.out hl10 hf10 ho10
                clear hp HCL HPO x0 x1 x2 x3 bc hl10 hf10 ho10
                have HCL := Lib.hid hcl10
                clear hcl10)
              go_roundw
              case rel =>
                refine ⟨k + 1, by omega, by go_num, postD d' ⟨xf, xt, xa, xd⟩, { m' with ve := v' }, _, ds ++ [df], HCL, HOK.out.post HPE.out, ⟨HSM.out.1, HSM.out.2.1, HSM.out.2.2.1, ?_⟩, HF4, by simp; omega⟩
                have h1 := HSM.out.2.2.2
                have h2 : d.ents.length ≤ d'.ents.length := by
                  have := congrArg List.length h1
                  rw [List.length_take] at this
                  omega
                show (d'.ents ++ _).take d.ents.length = d.ents
                rw [List.take_append_of_le_length h2, h1]
              case measure => simp [intOf]; omega
            · rw [if_pos hpe] at hf
              obtain ⟨pe, hpe2⟩ : ∃ p, p = postErr d' ⟨xf, xt, xa, xd⟩ := ⟨_, rfl⟩
              rw [← hpe2] at hf
              have hpn : (pe != 0) = true := by rw [hpe2]; simpa using hpe
              have HER2 := Lib.hid (show er = pe by rw [HER.out, hf])
              have HPE := Lib.hid hpe
              have HPE2 := Lib.hid hpe2
              clear hf hpe hpe2
              obtain ⟨aE, cE, hvE⟩ := owns_form HCL.out.led.ents
              have hcapE : d'.ents.length ≤ cE ∧ (aE = none → d'.ents.length = 0 ∧ cE = 0) := by
                have h7 := HCL.out.led.ents
                rw [hvE] at h7
                exact owns_cap h7
              have hleE : d.ents.length ≤ d'.ents.length := by
                have := congrArg List.length HSM.out.2.2.2
                rw [List.length_take] at this
                omega
              have HVE := Lib.hid hvE
              have HCAP := Lib.hid hcapE
              have HLE := Lib.hid hleE
              clear hvE hcapE hleE
              go_wp2_with (first
                | (go_at_call 31
                   refine HPO.out.mono ?_
                   rintro e w10 hp
                   obtain ⟨rfl, hx10⟩ := hp.bad HPE.out
                   rw [← HPE2.out]
                   have hcl10 := HCL.out.ext hx10
                   have fbx := hcl10.fx
                   clear hp HCL HPO x0 x1 x2 x3 bc hx10
                   have HCL := Lib.hid hcl10
                   have FBX := Lib.hid fbx
                   clear hcl10 fbx)
                | (with_reducible refine wpList_setK (i := 0) (v := .slice none 0 0) rfl rfl FBX.out ?_ ?_ ?_ ?_ ?_ ?_ ?_
                   · rfl
                   · rfl
                   · show 0 < 1; omega
                   · kernel_rfl
                   · rfl
                   · rfl
                   rintro w11 hb11 ho11
                   have hb12 : Blk w11 fb #[.slice none 0 0] 22 := hb11
                   have ebx := HCL.out.ex.only ho11 (by have := HCL.out.far; omega)
                   clear FBX hb11
                   have FB2 := Lib.hid hb12
                   have EBX := Lib.hid ebx
                   have HO1 := Lib.hid ho11
                   clear hb12 ebx ho11)
                | (with_reducible refine wpList_setK (i := 0) (v := .int .i64 pe) rfl rfl EBX.out ?_ ?_ ?_ ?_ ?_ ?_ ?_
                   · rfl
                   · rfl
                   · show 0 < 1; omega
                   · kernel_rfl
                   · rfl
                   · rfl
                   rintro w12 hb13 ho12
                   have hb14 : Blk w12 eb #[.int .i64 pe] 25 := hb13
                   have fb3 := FB2.out.only ho12 (by have := HCL.out.far; omega)
                   have hon : Only (fun k => k = fb ∨ k = eb) w10 w12 := (HO1.out.weak fun k _ hk => .inl hk).tr (ho12.weak fun k _ hk => .inr hk)
                   clear EBX FB2 HO1 hb13 ho12
                   have EB3 := Lib.hid hb14
                   have FB3 := Lib.hid fb3
                   have HON := Lib.hid hon
                   clear hb14 fb3 hon))
              obtain ⟨g1, g2, g3, g4, g5, ⟨n1', n2', n3', n4', n5', n6', n7', n8', n9'⟩, g6⟩ := HCL.out.errd HON.out
              show Leaves _ _ _ _ _ _ _
              refine leaves_cons (f := 71) (args := #[.pointer (some ⟨eb, 0, none⟩), .pointer (some ⟨wb, 0, none⟩), .pointer (some ⟨bb, 0, none⟩), .pointer (some ⟨nb, 0, none⟩), .pointer (some ⟨fb, 0, none⟩)]) (by simp) (by simp [go_sem]) ?_
              refine (undo_some eb wb bb nb fb lb pe d d' m' aE d.ents.length d'.ents.length cE _ _ _ hpn (EB3.out.cell 0) g3 (g2.cell 0) (g4.cell 0) FB3.out g1.led HVE.out (Nat.le_trans HLE.out HCAP.out.1) (fun h => ⟨by have := (HCAP.out.2 h).1; have := HLE.out; omega, (HCAP.out.2 h).2⟩) n1' n2' n3' n4' n5' n6' n7').mono ?_
              rintro e u' w13 ⟨rfl, rfl, hl13, hf13, ho13⟩
              obtain ⟨r1, r2, r3⟩ := HCL.out.undone HSM.out HVE.out HON.out ho13 hl13
              have f0 := hf13.cell 0
              have e0 := ho13.cell (EB3.out.cell 0) (fun hk => hk.elim n8' n9')
              refine ⟨.tuple #[.slice none 0 0, .int .i64 pe], by simp [results, Try.results29, go_sem, f0, e0], HP.out _ _ ⟨_, { m' with ve := .slice aE d.ents.length cE }, by rw [← HE.out, HER2.out], .inl ⟨by rw [← HE.out, HER2.out]; simpa using hpn, rfl, r1⟩, HCL.out.mab, HCL.out.mva, r2, r3⟩⟩
        · obtain rfl : k = ks.length := by omega
          clear hlt
          have hf := HF.out
          have hnil : (ks.zip cs).drop ks.length = [] := List.drop_eq_nil_of_le (by rw [List.length_zip]; omega)
          rw [hnil] at hf
          have hf2 : closeF day d [] (ks.zip cs) = (d', ds, 0) := hf
          have HF5 := Lib.hid hf2
          have HER2 := Lib.hid (show er = 0 by rw [HER.out, hf2])
          have bc := HCL.out.bx.cell 0
          have fc := HCL.out.fx.cell 0
          have LBX := Lib.hid HCL.out.led.led
          clear HF hf hnil hf2
          go_wp2_with (first
            | (with_reducible refine wpList_setK (i := 43) (v := .int .i64 day) rfl rfl LBX.out ?_ ?_ ?_ ?_ ?_ ?_ ?_
               · rfl
               · rfl
               · rw [ledA_size]; omega
               · kernel_rfl
               · rfl
               · rfl
               rintro w10 hb10 ho10
               have fbx := HCL.out.fx.only ho10 (by have := HCL.out.far; omega)
               have ebx := HCL.out.ex.only ho10 (by have := HCL.out.far; omega)
               clear LBX bc fc
               have fc := fbx.cell 0
               have LB10 := Lib.hid hb10
               have HO10 := Lib.hid ho10
               have FBX := Lib.hid fbx
               have EBX := Lib.hid ebx
               clear hb10 ho10 fbx ebx)
            | (with_reducible refine wpList_setK (i := 0) (v := .slice avd ds.length cvd) rfl rfl FBX.out ?_ ?_ ?_ ?_ ?_ ?_ ?_
               · rfl
               · rfl
               · show 0 < 1; omega
               · kernel_rfl
               · rfl
               · rfl
               rintro w11 hb11 ho11
               have hb12 : Blk w11 fb #[.slice avd ds.length cvd] 22 := hb11
               have ebx := EBX.out.only ho11 (by have := HCL.out.far; omega)
               clear FBX hb11 EBX fc
               have FB2 := Lib.hid hb12
               have EBX := Lib.hid ebx
               have HO1 := Lib.hid ho11
               clear hb12 ebx ho11)
            | (with_reducible refine wpList_setK (i := 0) (v := .int .i64 0) rfl rfl EBX.out ?_ ?_ ?_ ?_ ?_ ?_ ?_
               · rfl
               · rfl
               · show 0 < 1; omega
               · kernel_rfl
               · rfl
               · rfl
               rintro w12 hb13 ho12
               have hb14 : Blk w12 eb #[.int .i64 0] 25 := hb13
               have fb3 := FB2.out.only ho12 (by have := HCL.out.far; omega)
               have hon : Only (fun k => k = fb ∨ k = eb) w10 w12 := (HO1.out.weak fun k _ hk => .inl hk).tr (ho12.weak fun k _ hk => .inr hk)
               clear EBX FB2 HO1 hb13 ho12
               have EB3 := Lib.hid hb14
               have FB3 := Lib.hid fb3
               have HON := Lib.hid hon
               clear hb14 fb3 hon))
          obtain ⟨r1, r2, r3⟩ := HCL.out.closedD HW0.out LB10.out HO10.out HON.out
          show Leaves _ _ _ _ _ _ _
          refine leaves_cons (f := 71) (args := #[.pointer (some ⟨eb, 0, none⟩), .pointer (some ⟨wb, 0, none⟩), .pointer (some ⟨bb, 0, none⟩), .pointer (some ⟨nb, 0, none⟩), .pointer (some ⟨fb, 0, none⟩)]) (by simp) (by simp [go_sem]) ?_
          refine (undo_zero eb wb bb nb fb _ _ (EB3.out.cell 0)).mono ?_
          rintro e u' w13 ⟨rfl, rfl, rfl⟩
          have f0 := FB3.out.cell 0
          have e0 := EB3.out.cell 0
          have hcf : closeF day d [] (closeP d cs) = (d', ds, 0) := by unfold closeP; rw [← HKS.out]; exact HF5.out
          refine ⟨.tuple #[.slice avd ds.length cvd, .int .i64 0], by simp [results, Try.results29, go_sem, f0, e0], HP.out _ _ ⟨_, m', by rw [← HE.out, HER2.out], .inr ⟨by rw [← HE.out, HER2.out], ?_, ?_⟩, HCL.out.mab, HCL.out.mva, HCL.out.fresh, r3⟩⟩
          · rw [hcf]; exact r2
          · rw [hcf]; exact r1
end Go.Proofs.Ytekplfbfkfiabaa
