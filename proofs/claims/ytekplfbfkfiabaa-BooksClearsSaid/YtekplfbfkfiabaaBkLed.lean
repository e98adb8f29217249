/- Check, none, there, last, Clone at accounts and at signed entries; a ledger in memory; New. -/
import Derived.Test.YtekplfbfkfiabaaBkLeaf
import Derived.Deep.RegionWith
namespace Go.Proofs.Ytekplfbfkfiabaa
open Go.RowKit
set_option linter.unusedVariables false
set_option linter.unusedSimpArgs false

theorem tAccs : SliceT Try.prog 45 85 (.agg #[.int .i64 0, .bool false]) 2 16 := ⟨by kernel_rfl, by kernel_rfl, rfl, by decide, by decide⟩
theorem tSigs : SliceT Try.prog 66 76 (.agg #[.int .i64 0, .int .i64 0, .int .i64 0, .int .i64 0, .int .u64 0]) 5 40 := ⟨by kernel_rfl, by kernel_rfl, rfl, by decide, by decide⟩

def sigC (x : SigD) : List Value := [.int .i64 x.e.frm, .int .i64 x.e.to, .int .i64 x.e.amt, .int .i64 x.e.day, .int .u64 x.sign]
theorem sigC_len (x : SigD) : (sigC x).length = 5 := rfl
theorem sigC_one (x : SigD) : ∀ v ∈ sigC x, v.oneCell' = true := by intro v hv; simp [sigC] at hv; rcases hv with rfl | rfl | rfl | rfl | rfl <;> rfl
def SigIn (w : World) (v : Value) (l : List SigD) : Prop := StIn 5 sigC w v l
theorem SigIn.ext {w w' : World} {v : Value} {l : List SigD} (h : SigIn w v l) (k : Ext w w') : SigIn w' v l := StIn.ext sigC_len h k
theorem SigIn.form {w : World} {v : Value} {l : List SigD} (h : SigIn w v l) : ∃ a c, v = .slice a l.length c ∧ Hid (SigIn w (.slice a l.length c) l) := StIn.form h
theorem SigIn.cells {w : World} {a : Option Addr} {n c : Nat} {l : List SigD} (h : SigIn w (.slice a n c) l) (h0 : 0 < l.length) :
    ∃ b o, a = some ⟨b, o, none⟩ ∧ ∀ i (h : i < l.length), w.cell? ⟨b, o + i * 5, none⟩ = some (.int .i64 l[i].e.frm) ∧ w.cell? ⟨b, o + i * 5 + 1, none⟩ = some (.int .i64 l[i].e.to) ∧ w.cell? ⟨b, o + i * 5 + 2, none⟩ = some (.int .i64 l[i].e.amt) ∧ w.cell? ⟨b, o + i * 5 + 3, none⟩ = some (.int .i64 l[i].e.day) ∧ w.cell? ⟨b, o + i * 5 + 4, none⟩ = some (.int .u64 l[i].sign) := by
  obtain ⟨b, o, h1, h2⟩ := StIn.cells h h0
  exact ⟨b, o, h1, fun i hi => ⟨h2 i hi 0 (by omega), h2 i hi 1 (by omega), h2 i hi 2 (by omega), h2 i hi 3 (by omega), h2 i hi 4 (by omega)⟩⟩
theorem SigIn.len {w : World} {v : Value} {l : List SigD} (h : SigIn w v l) : l.length ≤ 9223372036854775807 := h.1

theorem check_any (l : List AccD) (va : Value) (w : World) (ha : AccIn w va l) :
    Calls Try.prog 26 #[va] w fun e w' => e = .returned (.int .i64 (checkE l)) ∧ Ext w w' := by
  have hl := ha.len
  obtain ⟨a, c, rfl, Ha⟩ := ha.form
  clear ha
  by_cases h1 : 1 ≤ l.length ∧ l.length ≤ 40
  · have he : checkE l = if l.any (badP l) then 140 else 0 := by unfold checkE; rw [if_pos h1]
    obtain ⟨h1a, h1b⟩ := h1
    rcases hb : l.any (badP l) with _ | _ <;> (
      rw [hb] at he
      have HE := Lib.hid he
      have HB := Lib.hid hb
      clear he hb
      go_enter Try.func26, Try.ntmps26
      go_wp2_with (first
        | (go_at_call 52; refine (in_true _ _ _ _ (by omega)).mono ?_; rintro e w' ⟨rfl, rfl⟩)
        | (with_reducible refine wpList_boxA (t := 133) (cs := #[.slice a l.length c]) rfl rfl rfl ?_
           rintro ab w1 hb1 hx1 hl1
           have HX := Lib.hid hx1
           have AB := Lib.hid hb1
           clear hx1 hb1
           clear hl1)
        | (with_reducible refine wpList_alloc1 rfl rfl Try.zeroValue94 rfl ?_
           rintro pb w2 hb2 hx2 hl2
           have lp : w.heap.size ≤ pb := Nat.le_trans HX.out.size hl2
           have np : ab ≠ pb := fun e => by have := AB.out.lt; omega
           replace HX := Lib.hid (HX.out.ext hx2)
           replace AB := Lib.hid (AB.out.ext hx2)
           have LP := Lib.hid lp
           have PB := Lib.hid hb2
           have NP := Lib.hid np
           clear lp hb2 np
           clear hx2 hl2)
        | (with_reducible refine wpList_setK (i := 0) (v := .pointer (some ⟨ab, 0, none⟩)) rfl rfl PB.out ?_ ?_ ?_ ?_ ?_ ?_ ?_
           · rfl
           · rfl
           · decide
           · kernel_rfl
           · rfl
           · rfl
           rintro w3 hb3 ho3
           have hx3 := HX.out.then_only ho3 (fun k (e : k = pb) => by rw [e]; exact LP.out)
           have ab3 := AB.out.only ho3 NP.out
           have c1 := hb3.cell 0
           have c0 := ab3.cell 0
           clear HX AB PB
           have HX := Lib.hid hx3
           have C0 := Lib.hid c0
           have C1 := Lib.hid c1
           clear hx3 c0 c1
           clear hb3 ho3 ab3)
        | (go_at_call 63
           have haw := Ha.out.ext HX.out
           refine (containsA_any l _ 64 #[.pointer (some ⟨pb, 0, none⟩)] (badP l) _ haw (fun a w => by simp [go_sem]) (fun x hx w4 hw4 => badC_any l x _ pb ab w4 (hw4.cellSome C1.out) (hw4.cellSome C0.out) (haw.ext hw4))).mono ?_
           rintro e w4 ⟨rfl, hx4⟩
           rw [HB.out]
           have hx5 := HX.out.tr hx4
           clear HX haw C0 C1
           have HX := Lib.hid hx5
           clear hx5
           clear hx4))
      go_ret
      exact ⟨ret_int (by rw [HE.out]; rfl), HX.out⟩)
  · have he : checkE l = 2 := by unfold checkE; rw [if_neg h1]
    have HE := Lib.hid he
    clear he
    go_enter Try.func26, Try.ntmps26
    go_wp2_with (go_at_call 52; refine (in_false _ _ _ _ (by omega)).mono ?_; rintro e w' ⟨rfl, rfl⟩)
    go_ret
    exact ⟨ret_int HE.out.symm, Below.refl _ _⟩

theorem none_any (lb ab : Nat) (w : World) (hc : w.cell? ⟨lb, 0, none⟩ = some (.pointer (some ⟨ab, 0, none⟩))) :
    Calls Try.prog 66 #[.pointer (some ⟨lb, 0, none⟩)] w fun e w' => e = .returned (.bool false) ∧ w = w' := by
  go_enter Try.func66, Try.ntmps66
  go_wp2
  go_ret
  exact ⟨rfl, rfl⟩
theorem there_any (ab : Nat) (a : Option Addr) (n c : Nat) (i : Int) (w : World) (hn : n ≤ 1000000) (hc : w.cell? ⟨ab, 0, none⟩ = some (.slice a n c)) :
    Calls Try.prog 67 #[.pointer (some ⟨ab, 0, none⟩), .int .i64 i] w fun e w' => e = .returned (.bool (nIn i 0 ((n : Int) - 1))) ∧ w = w' := by
  go_enter Try.func67, Try.ntmps67
  go_wp2_with (go_at_call 52; refine (in_any _ _ _ _).mono ?_; rintro e w' ⟨rfl, rfl⟩)
  go_ret
  exact ⟨rfl, rfl⟩

theorem owns_empty (w : World) (e : TypeId) (z : Nat) (c : Array Value) (hc : c.size = 0) : (w.alloc (.cells c e)).ownsRow w.heap.size e z (.slice (some ⟨w.heap.size, 0, none⟩) 0 0) 0 [] :=
  ⟨by simp, .inr ⟨w.heap.size, 0, c, rfl, Nat.le_refl _, heap_alloc_new w _, Nat.le_refl _, by unfold maxLen; omega, by simp [hc], by simp⟩⟩

set_option maxRecDepth 100000 in
set_option maxHeartbeats 1000000 in
theorem cloneA_any (l : List AccD) (va : Value) (w : World) (ha : AccIn w va l) (hb : l.length ≤ 1000000) :
    Calls Try.prog 75 #[va] w fun e w' => ∃ v, e = .returned v ∧ Ext w w' ∧ w'.ownsRow w.heap.size 85 2 v l.length (l.flatMap accC) := by
  obtain ⟨a, c, rfl, Ha⟩ := ha.form
  clear ha
  have hnil := fun (w : World) (a : Option Addr) (n c : Nat) => Lib.run_eql_slice_nil (P := Try.prog) w 45 85 a n c 0 0 tAccs.ht
  cases a with
  | none =>
    have hx : l = [] := by
      rcases Nat.eq_zero_or_pos l.length with h | h
      · exact List.eq_nil_of_length_eq_zero h
      · obtain ⟨b, o, h1, _⟩ := Ha.out.cells h; cases h1
    subst hx
    go_enter Try.func75, Try.ntmps75
    go_wp2
    go_ret
    exact ⟨_, rfl, Below.refl _ _, World.ownsRow_nil _ _ _ _⟩
  | some ad =>
    go_enter Try.func75, Try.ntmps75
    go_wp2_with (
      at_builtin
      refine wpList_app tAccs rfl rfl rfl (owns_empty w 85 2 _ rfl) rfl (StIn.src accC_len (by omega) (Ha.out.ext (ext_lit _ _ _))) (fl_one accC_one l) (by omega) (by simp) ?_
      rintro v' w1 h1 h2 h3
      have hx := ext_grown (ext_lit w _ _) (owns_empty w 85 2 _ rfl) h2
      have H1 := Lib.hid h1
      have HX := Lib.hid hx
      clear h1 hx
      clear h2 h3)
    go_ret
    have h := H1.out
    rw [Nat.zero_add, List.nil_append] at h
    exact ⟨_, rfl, HX.out, h⟩
set_option maxRecDepth 100000 in
set_option maxHeartbeats 1000000 in
theorem cloneS_any (l : List SigD) (va : Value) (w : World) (ha : SigIn w va l) (hb : l.length ≤ 1000000) :
    Calls Try.prog 74 #[va] w fun e w' => ∃ v, e = .returned v ∧ Ext w w' ∧ w'.ownsRow w.heap.size 76 5 v l.length (l.flatMap sigC) := by
  obtain ⟨a, c, rfl, Ha⟩ := ha.form
  clear ha
  have hnil := fun (w : World) (a : Option Addr) (n c : Nat) => Lib.run_eql_slice_nil (P := Try.prog) w 66 76 a n c 0 0 tSigs.ht
  cases a with
  | none =>
    have hx : l = [] := by
      rcases Nat.eq_zero_or_pos l.length with h | h
      · exact List.eq_nil_of_length_eq_zero h
      · obtain ⟨b, o, h1, _⟩ := Ha.out.cells h; cases h1
    subst hx
    go_enter Try.func74, Try.ntmps74
    go_wp2
    go_ret
    exact ⟨_, rfl, Below.refl _ _, World.ownsRow_nil _ _ _ _⟩
  | some ad =>
    go_enter Try.func74, Try.ntmps74
    go_wp2_with (
      at_builtin
      refine wpList_app tSigs rfl rfl rfl (owns_empty w 76 5 _ rfl) rfl (StIn.src sigC_len (by omega) (Ha.out.ext (ext_lit _ _ _))) (fl_one sigC_one l) (by omega) (by simp) ?_
      rintro v' w1 h1 h2 h3
      have hx := ext_grown (ext_lit w _ _) (owns_empty w 76 5 _ rfl) h2
      have H1 := Lib.hid h1
      have HX := Lib.hid hx
      clear h1 hx
      clear h2 h3)
    go_ret
    have h := H1.out
    rw [Nat.zero_add, List.nil_append] at h
    exact ⟨_, rfl, HX.out, h⟩

/-- Where a ledger's parts lie. -/
structure LMem where
  ab : Nat
  va : Value
  ve : Value
def balC (d : LedD) : List Value := (List.range 40).map fun (i : Nat) => Value.int .i64 (balA (i : Int) d.ents)
def ledA (d : LedD) (m : LMem) : Array Value := (.pointer (some ⟨m.ab, 0, none⟩) :: .int .u64 d.key :: m.ve :: (balC d ++ [.int .i64 d.closed])).toArray
theorem balC_len (d : LedD) : (balC d).length = 40 := by simp [balC]
theorem ledA_size (d : LedD) (m : LMem) : (ledA d m).size = 44 := by simp [ledA, balC_len]
/-- A ledger in memory, in block lb; its own blocks begin at B. -/
structure LSt (w : World) (B lb : Nat) (d : LedD) (m : LMem) : Prop where
  blt : B ≤ lb
  led : Blk w lb (ledA d m) 97
  acc : Blk w m.ab #[m.va] 133
  row : AccIn w m.va d.acc
  ents : w.ownsRow B 76 5 m.ve d.ents.length (d.ents.flatMap sigC)
  nab : m.ab ≠ lb
  nva : ∀ b, m.va.ownBlock = some b → b ≠ lb
  nve : ∀ b, m.ve.ownBlock = some b → b ≠ lb ∧ b ≠ m.ab ∧ m.va.ownBlock ≠ some b
theorem LSt.only {w w' : World} {B lb : Nat} {d : LedD} {m : LMem} {S : Nat → Prop} (h : LSt w B lb d m) (k : Only S w w') (h1 : ¬ S lb) (h2 : ¬ S m.ab) (h3 : ∀ b, m.va.ownBlock = some b → ¬ S b) (h4 : ∀ b, m.ve.ownBlock = some b → ¬ S b) : LSt w' B lb d m :=
  ⟨h.blt, h.led.only k h1, h.acc.only k h2, StIn.only accC_len h.row k h3, owns_only h.ents k h4, h.nab, h.nva, h.nve⟩
theorem LSt.ext {w w' : World} {B lb : Nat} {d : LedD} {m : LMem} (h : LSt w B lb d m) (k : Ext w w') : LSt w' B lb d m :=
  h.only (S := fun _ => False) (Only.of_ext k) (fun h => h) (fun h => h) (fun _ _ h => h) (fun _ _ h => h)
theorem LSt.c0 {w : World} {B lb : Nat} {d : LedD} {m : LMem} (h : LSt w B lb d m) : w.cell? ⟨lb, 0, none⟩ = some (.pointer (some ⟨m.ab, 0, none⟩)) := by rw [h.led.cell]; rfl
theorem LSt.c1 {w : World} {B lb : Nat} {d : LedD} {m : LMem} (h : LSt w B lb d m) : w.cell? ⟨lb, 1, none⟩ = some (.int .u64 d.key) := by rw [h.led.cell]; rfl
theorem LSt.c2 {w : World} {B lb : Nat} {d : LedD} {m : LMem} (h : LSt w B lb d m) : w.cell? ⟨lb, 2, none⟩ = some m.ve := by rw [h.led.cell]; rfl
theorem LSt.c43 {w : World} {B lb : Nat} {d : LedD} {m : LMem} (h : LSt w B lb d m) : w.cell? ⟨lb, 43, none⟩ = some (.int .i64 d.closed) := by
  rw [h.led.cell]; simp [ledA, balC_len, List.getElem?_append_right]
theorem LSt.cb {w : World} {B lb : Nat} {d : LedD} {m : LMem} (h : LSt w B lb d m) (i : Nat) (hi : i < 40) : w.cell? ⟨lb, 3 + i, none⟩ = some (.int .i64 (balA (i : Int) d.ents)) := by
  rw [h.led.cell]
  have e : 3 + i = i + 1 + 1 + 1 := by omega
  rw [e]
  simp [ledA]
  rw [List.getElem?_append_left (by rw [balC_len]; exact hi)]
  simp [balC, hi]
theorem LSt.ca {w : World} {B lb : Nat} {d : LedD} {m : LMem} (h : LSt w B lb d m) : w.cell? ⟨m.ab, 0, none⟩ = some m.va := by rw [h.acc.cell]; rfl
theorem LSt.sig {w : World} {B lb : Nat} {d : LedD} {m : LMem} (h : LSt w B lb d m) (hl : d.ents.length ≤ 5000) : SigIn w m.ve d.ents := StIn.of_owns sigC_len h.ents (by omega)

def NewPost (w : World) (key : Int) (l : List AccD) (e : Ending) (w' : World) : Prop :=
  (checkE l ≠ 0 ∧ e = .returned (.tuple #[.pointer none, .int .i64 (checkE l)]) ∧ Ext w w') ∨
  (checkE l = 0 ∧ ∃ lb m, e = .returned (.tuple #[.pointer (some ⟨lb, 0, none⟩), .int .i64 0]) ∧ LSt w' w.heap.size lb (newD key l) m ∧ w.heap.size ≤ m.ab ∧ (∀ b, m.va.ownBlock = some b → w.heap.size ≤ b) ∧ m.ve = .slice none 0 0 ∧ Ext w w')

set_option maxRecDepth 100000 in
set_option maxHeartbeats 2000000 in
theorem new_any (key : Int) (l : List AccD) (va : Value) (w : World) (ha : AccIn w va l) :
    Calls Try.prog 40 #[.int .u64 key, va] w (NewPost w key l) := by
  have hp : ∀ e w', NewPost w key l e w' → NewPost w key l e w' := fun _ _ h => h
  obtain ⟨a, c, rfl, Ha⟩ := ha.form
  clear ha
  have HP := Lib.hid hp
  clear hp
  by_cases h0 : checkE l = 0
  · have hl : 1 ≤ l.length ∧ l.length ≤ 40 := by
      unfold checkE at h0; split at h0
      · assumption
      · omega
    obtain ⟨hl1, hl2⟩ := hl
    have H0 := Lib.hid h0
    clear h0
    go_enter Try.func40, Try.ntmps40
    go_wp2_with (first
      | (go_at_call 26
         refine (check_any l _ _ Ha.out).mono ?_
         rintro e w1 ⟨rfl, hx1⟩
         rw [H0.out]
         have ha1 := Ha.out.ext hx1
         clear Ha
         have Ha := Lib.hid ha1
         have HX := Lib.hid hx1
         clear ha1 hx1)
      | (go_at_call 75
         refine (cloneA_any l _ _ Ha.out (by omega)).mono ?_
         rintro e w2 ⟨v, rfl, hx2, ho⟩
         have hs := HX.out.size
         have ho2 := owns_weak ho hs
         replace HX := Lib.hid (HX.out.ext hx2)
         obtain ⟨a2, c2, rfl⟩ := row_form ho
         have HO := Lib.hid ho2
         clear ho2
         clear hx2 ho hs)
      | (with_reducible refine wpList_boxA (t := 133) (cs := #[.slice a2 l.length c2]) rfl rfl rfl ?_
         rintro ab w3 hb3 hx3 hl3
         have nva : ∀ b, (Value.slice a2 l.length c2).ownBlock = some b → b < ab := fun b hb => by have := (HO.out.lt b hb).2; omega
         have ho3 := owns_ext HO.out hx3
         have lab := Nat.le_trans HX.out.size hl3
         clear HO
         replace HX := Lib.hid (HX.out.ext hx3)
         have HO := Lib.hid ho3
         have AB := Lib.hid hb3
         have NVA := Lib.hid nva
         have LAB := Lib.hid lab
         clear ho3 hb3 nva lab
         clear hx3 hl3)
      | (with_reducible refine wpList_boxA (t := 97) rfl rfl rfl ?_
         rintro lb w4 hb4 hx4 hl4
         have hb5 : Blk w4 lb (ledA (newD key l) ⟨ab, .slice a2 l.length c2, .slice none 0 0⟩) 97 := hb4
         clear hb4
         have nab : ab < lb := Nat.lt_of_lt_of_le AB.out.lt hl4
         have llb := Nat.le_trans HX.out.size hl4
         have ho4 := owns_ext HO.out hx4
         clear HO
         replace HX := Lib.hid (HX.out.ext hx4)
         replace AB := Lib.hid (AB.out.ext hx4)
         have HO := Lib.hid ho4
         have LB := Lib.hid hb5
         have NAB := Lib.hid nab
         have LLB := Lib.hid llb
         clear ho4 hb5 nab llb
         clear hx4 hl4))
    go_ret2
    refine HP.out _ _ (.inr ⟨H0.out, lb, ⟨ab, .slice a2 l.length c2, .slice none 0 0⟩, rfl, ⟨LLB.out, LB.out, AB.out, StIn.of_owns accC_len HO.out (show l.length ≤ 9223372036854775807 by omega), World.ownsRow_nil _ _ _ _, ?_, ?_, ?_⟩, LAB.out, ?_, rfl, HX.out⟩)
    · have := NAB.out; show ab ≠ lb; omega
    · intro b hb; have := NVA.out b hb; have := NAB.out; omega
    · intro b hb; cases hb
    · intro b hb; exact (HO.out.lt b hb).1
  · have hd : (checkE l == 0) = false := by simpa using h0
    have hd2 : (checkE l != 0) = true := by simpa using h0
    obtain ⟨er, her⟩ : ∃ er, er = checkE l := ⟨_, rfl⟩
    rw [← her] at h0 hd hd2
    have H0 := Lib.hid h0
    have HE := Lib.hid her
    clear h0 her
    go_enter Try.func40, Try.ntmps40
    go_wp2_with (go_at_call 26
                 refine (check_any l _ _ Ha.out).mono ?_
                 rintro e w1 ⟨rfl, hx1⟩
                 rw [← HE.out]
                 have HX := Lib.hid hx1
                 clear hx1)
    go_ret2
    exact HP.out _ _ (.inl ⟨by rw [← HE.out]; exact H0.out, by rw [← HE.out]; rfl, HX.out⟩)
end Go.Proofs.Ytekplfbfkfiabaa
