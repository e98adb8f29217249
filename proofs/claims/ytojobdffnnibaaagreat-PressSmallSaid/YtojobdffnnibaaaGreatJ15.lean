/- press.Refute: what its loop over the codes keeps, and what a code has to be. What the reference's Refute answers, in plain words. The reference: the situation that a number writes. -/
import Derived.Test.YtojobdffnnibaaaGreatJ11
import Derived.Test.YtojobdffnnibaaaGreatJ8
import Derived.Test.YtojobdffnnibaaaGreatPSr0
import Derived.Test.YtojobdffnnibaaaGreatMapB
import Derived.Test.YtojobdffnnibaaaGreatJ12
namespace Go.Proofs.YtojobdffnnibaaaGreat
open Go.RowKit Go.Shelf
set_option linter.unusedVariables false
theorem refOk_neg {p : PressD} {g : GoalD} {n : Nat} {codes : List Int} {c : Int} (h : c < 0) : refOk p g n codes c = false := by
 unfold refOk; rw [decide_eq_false (by omega)]; rfl
theorem refOk_dec {p : PressD} {g : GoalD} {n : Nat} {codes : List Int} {k : Nat} (h : decOk n k = false) : refOk p g n codes k = false := by
 unfold refOk; rw [Int.toNat_natCast, h]; simp
theorem refOk_ful {p : PressD} {g : GoalD} {n : Nat} {codes : List Int} {k : Nat} (h : fulD g (decD n k) = true) : refOk p g n codes k = false := by
 unfold refOk; rw [Int.toNat_natCast, h]; simp
theorem refOk_act {p : PressD} {g : GoalD} {n : Nat} {codes : List Int} {k : Nat} {a : Int × Nat} (ha : a ∈ kindsD n) (h : actErr p (decD n k) a.1 a.2 = 0) (h2 : codes.contains (codeD (actD p (decD n k) a.1 a.2)) = false) : refOk p g n codes k = false := by
 unfold refOk; rw [Int.toNat_natCast]
 have : ((kindsD n).all fun a => actErr p (decD n k) a.1 a.2 != 0 || codes.contains (codeD (actD p (decD n k) a.1 a.2))) = false := by
  rw [List.all_eq_false]; exact ⟨a, ha, by rw [h, h2]; simp⟩
 rw [this]; simp
theorem refOk_yes {p : PressD} {g : GoalD} {n : Nat} {codes : List Int} {k : Nat} (h1 : decOk n k = true) (h2 : fulD g (decD n k) = false) (h3 : ∀ a ∈ allowL p (decD n k) (kindsD n), codes.contains (codeD (actD p (decD n k) a.1 a.2)) = true) : refOk p g n codes k = true := by
 unfold refOk; rw [Int.toNat_natCast, h1, h2]; simp only [Bool.not_false, Bool.true_and, Bool.and_eq_true, decide_eq_true_eq]; refine ⟨by omega, ?_⟩; rw [List.all_eq_true]; intro a ha
 by_cases he : actErr p (decD n k) a.1 a.2 = 0
 · have := h3 a (by unfold allowL; rw [List.mem_filter]; exact ⟨ha, by simpa using he⟩)
   rw [this]; simp
 · simp [he]
theorem RangeB.turn {w w' : World} {b r n : Nat} {ks done : List Int} {cnt : Nat} {row : Option Nat} (h : RangeB w b r n ks done cnt) (k : w.grownBy w' row) (hb : row ≠ some b) (hr : row ≠ some r) : RangeB w' b r n ks done cnt := by
 obtain ⟨h1, left, h2, h3⟩ := h; exact ⟨h1, left, h2.kept k (fun e => hb e.symm) (fun e => hr e.symm), h3⟩
/-- What lies still while the codes are gone through. -/
structure RfI (B tb rb gb qb mb pb ub c : Nat) (p : PressD) (s : StD) (vj gv : Value) (gd : Int) (w0 W : World) : Prop where
 t : Blk W tb #[.map (some qb)] 111
 r : Blk W rb #[.int .i64 0] 43
 g : Blk W gb #[.int .i64 gd, gv] 40
 m : MOw B W mb pb ub c p s vj
 x : Ext w0 W
section
variable {B tb rb gb qb mb pb ub c : Nat} {p : PressD} {s : StD} {vj gv : Value} {gd : Int} {w0 W W' : World}
theorem RfI.ext (h : RfI B tb rb gb qb mb pb ub c p s vj gv gd w0 W) (k : Ext W W') : RfI B tb rb gb qb mb pb ub c p s vj gv gd w0 W' :=
 ⟨h.t.ext k, h.r.ext k, h.g.ext k, h.m.ext k, h.x.tr k⟩
theorem RfI.turn {S : Nat → Prop} (h : RfI B tb rb gb qb mb pb ub c p s vj gv gd w0 W) (k : Only S W W') (hs : ∀ b, S b → w0.heap.size ≤ b ∧ B ≤ b ∧ ∃ o : Obj, W.heap[b]? = some o ∧ o.isCells = false) : RfI B tb rb gb qb mb pb ub c p s vj gv gd w0 W' := by
 have hn : ∀ {b : Nat} {cs : Array Value} {t : TypeId}, Blk W b cs t → ¬ S b := fun hb hS => by
  obtain ⟨_, _, o, h1, h2⟩ := hs _ hS; have h3 := h1.symm.trans hb
  cases h3; cases h2
 exact ⟨h.t.only k (hn h.t), h.r.only k (hn h.r), h.g.only k (hn h.g), h.m.notM k (fun b hb => by obtain ⟨_, hB, o, h1, h2⟩ := hs b hb; exact NotM.of_obj h1 hB h2), h.x.then_only k (fun b hb => (hs b hb).1)⟩
end
/-- The marks of the loops that were. -/
def MkI (B0 : Nat) (Ds : List Nat) (W : World) : Prop := (B0 ≤ W.heap.size ∧ Ds.Nodup) ∧ ∀ D ∈ Ds, B0 ≤ D ∧ W.heap[D]? = some (.deferred (some []))
theorem MkI.ext {B0 : Nat} {Ds : List Nat} {W W' : World} (h : MkI B0 Ds W) (k : Ext W W') : MkI B0 Ds W' := ⟨⟨Nat.le_trans h.1.1 k.size, h.1.2⟩, fun D hD => ⟨(h.2 D hD).1, k.blk (h.2 D hD).2⟩⟩
theorem MkI.only {B0 : Nat} {Ds : List Nat} {W W' : World} {S : Nat → Prop} (h : MkI B0 Ds W) (k : Only S W W') (hs : ∀ D, B0 ≤ D → ¬ S D) : MkI B0 Ds W' := ⟨⟨Nat.le_trans h.1.1 k.size, h.1.2⟩, fun D hD => ⟨(h.2 D hD).1, k.heap (h.2 D hD).2 (hs D (h.2 D hD).1)⟩⟩
theorem MkI.snoc {B0 BX D : Nat} {Ds : List Nat} {W : World} (h : MkI B0 Ds W) (hl : ∀ D' ∈ Ds, D' < BX) (hD : BX ≤ D) (hB : B0 ≤ BX) (hd : W.heap[D]? = some (.deferred (some []))) : MkI B0 (D :: Ds) W := by
 refine ⟨⟨h.1.1, ?_⟩, fun D' hD' => ?_⟩
 · rw [List.nodup_cons]
   exact ⟨fun hm => by have := hl D hm; omega, h.1.2⟩
 {
 rcases List.mem_cons.1 hD' with rfl | hD'
 · exact ⟨by omega, hd⟩
 · exact h.2 D' hD'
 }
theorem leave_at {Ds : List Nat} {w W W' : World} {rb B0 : Nat} {E : Int} {t : TypeId} (hb : Blk W rb #[.int .i64 E] t) (hx : Ext w W) (hB : w.heap.size ≤ B0) (hd : MkI B0 Ds W) (k : Only (fun b => b ∈ Ds) W W') : W'.cell? ⟨rb, 0, none⟩ = some (.int .i64 E) ∧ Ext w W' := by
 have hr : ¬ rb ∈ Ds := fun h => by
  have h1 := (hd.2 rb h).2.symm.trans hb
  cases h1
 exact ⟨(hb.only k hr).cell 0, hx.then_only k fun b hb => Nat.le_trans hB (hd.2 b hb).1⟩
theorem RangeB.obj {w : World} {b r n : Nat} {ks done : List Int} {cnt : Nat} (h : RangeB w b r n ks done cnt) : ∃ o : Obj, w.heap[r]? = some o ∧ o.isCells = false := by
 obtain ⟨h1, left, ⟨es, clock, since, seen, c0, hb, F, hs, hD, hr, rest⟩, h3⟩ := h; exact ⟨_, hr, rfl⟩
/-- Between two rounds over the actions of one code: those that came lead to codes that are there. -/
def RdI (B tb rb gb qb rg mb pb ub c nq m u2 n xb B0 BX : Nat) (cnt : Nat) (Ds : List Nat) (codes done : List Int) (p : PressD) (s t : StD) (vj gv : Value) (gd : Int) (w0 : World) (sl : List (Int × Nat)) (W : World) : Prop :=
 (∀ a ∈ sl, codes.contains (codeD (actD p t a.1 a.2)) = true) ∧ RangeB W qb rg nq codes done cnt ∧ RfI B tb rb gb qb mb pb ub c p s vj gv gd w0 W ∧ LiveM B m pb u2 n xb p t vj W ∧ MkI B0 Ds W ∧ ∀ D ∈ Ds, D < BX
section
variable {B tb rb gb qb rg mb pb ub c nq m u2 n xb B0 BX : Nat} {cnt : Nat} {Ds : List Nat} {codes done : List Int} {p : PressD} {s t : StD} {vj gv : Value} {gd : Int} {w0 : World} {sl : List (Int × Nat)}
theorem RdI.ext {W W' : World} (h : RdI B tb rb gb qb rg mb pb ub c nq m u2 n xb B0 BX cnt Ds codes done p s t vj gv gd w0 sl W) (k : Ext W W') : RdI B tb rb gb qb rg mb pb ub c nq m u2 n xb B0 BX cnt Ds codes done p s t vj gv gd w0 sl W' :=
 ⟨h.1, h.2.1.ext k, h.2.2.1.ext k, ⟨h.2.2.2.1.1.ext k, h.2.2.2.1.2.ext k⟩, h.2.2.2.2.1.ext k, h.2.2.2.2.2⟩
theorem RdI.own (hB : B ≤ BX) (hw : w0.heap.size ≤ BX) (hq : qb < BX) (hr : rg < BX) : OwnFrom BX (RdI B tb rb gb qb rg mb pb ub c nq m u2 n xb B0 BX cnt Ds codes done p s t vj gv gd w0) := by
 rintro l W W' row ⟨h1, h2, h3, h4, h5, h6⟩ hgr hro; have ho := grown_row hgr; refine ⟨h1, h2.turn hgr (fun e => by have := (hro _ e).1; omega) (fun e => by have := (hro _ e).1; omega), h3.turn ho (fun b e => ?_), ⟨h4.1.notM ho (fun b e => ?_), h4.2.only ho (fun e => ?_)⟩, ⟨⟨Nat.le_trans h5.1.1 ho.size, h5.1.2⟩, fun D hD => ⟨(h5.2 D hD).1, ho.heap (h5.2 D hD).2 (fun e => ?_)⟩⟩, h6⟩
 · obtain ⟨hle, o, h, hc⟩ := hro b e
   exact ⟨by omega, by omega, o, h, hc⟩
 · obtain ⟨hle, o, h, hc⟩ := hro b e
   exact NotM.of_obj h (by omega) hc
 {
 obtain ⟨_, o, h, hc⟩ := hro _ e; have h2 := h4.2.symm.trans h
 cases h2; cases hc
 }
 { have := (hro _ e).1; have := h6 D hD; omega }
end
/-- A round has returned. -/
def RxI (rb B0 BX : Nat) (Ds : List Nat) (E : Int) (w0 W : World) : Prop := E = 7 ∧ Blk W rb #[.int .i64 7] 43 ∧ Ext w0 W ∧ MkI B0 Ds W ∧ ∀ D ∈ Ds, D < BX
theorem RxI.own {rb B0 BX : Nat} {Ds : List Nat} {E : Int} {w0 : World} (hw : w0.heap.size ≤ BX) : OwnFrom BX (fun (_ : Unit) => RxI rb B0 BX Ds E w0) := by
 rintro l W W' row ⟨h1, h2, h3, h5, h6⟩ hgr hro; have ho := grown_row hgr; refine ⟨h1, h2.only ho (fun e => ?_), h3.then_only ho (fun b e => by have := (hro b e).1; omega), ⟨⟨Nat.le_trans h5.1.1 ho.size, h5.1.2⟩, fun D hD => ⟨(h5.2 D hD).1, ho.heap (h5.2 D hD).2 (fun e => ?_)⟩⟩, h6⟩
 {
 obtain ⟨_, o, h, hc⟩ := hro _ e; have h2 := h2.symm.trans h
 cases h2; cases hc
 }
 { have := (hro _ e).1; have := h6 D hD; omega }
theorem RdI.ret {B tb rb gb qb rg mb pb ub c nq m u2 n xb B0 BX : Nat} {cnt : Nat} {Ds : List Nat} {codes done : List Int} {p : PressD} {s t : StD} {vj gv : Value} {gd : Int} {w0 : World} {sl sl2 : List (Int × Nat)} {W W2 : World} {E : Int} {a : Act}
 (h : RdI B tb rb gb qb rg mb pb ub c nq m u2 n xb B0 BX cnt Ds codes done p s t vj gv gd w0 sl W) (y : Ext W W2) (hE : E = 7) (hl : w0.heap.size ≤ rb) (hB : rb < B0) :
 goesStops BX (RdI B tb rb gb qb rg mb pb ub c nq m u2 n xb B0 BX cnt Ds codes done p s t vj gv gd w0) (RxI rb B0 BX Ds E w0) sl2 W .ret a (W2.setCell ⟨rb, 0, none⟩ (.int .i64 7)) := by
 have h2 := h.ext y; have hr := h2.2.2.1.r; have ho : Only (fun b => b = rb) W2 (W2.setCell ⟨rb, 0, none⟩ (.int .i64 7)) := Only.set W2 _ _ rfl; refine ⟨(keeps_ext y).trans (keeps_cells ho (fun b e => by rw [e]; exact ⟨_, _, hr⟩)), hE, blk_set hr 0 _, h2.2.2.1.x.then_only ho (fun b e => by rw [e]; exact hl), h2.2.2.2.2.1.only ho (fun D hD e => by omega), h2.2.2.2.2.2⟩
theorem RdI.more {B tb rb gb qb rg mb pb ub c nq m u2 n xb B0 BX : Nat} {cnt : Nat} {Ds : List Nat} {codes done : List Int} {p : PressD} {s t : StD} {vj gv : Value} {gd : Int} {w0 : World} {sl : List (Int × Nat)} {W W2 : World} {Ix : World → Prop} {a : Act} {xk : Int} {xu : Nat}
 (h : RdI B tb rb gb qb rg mb pb ub c nq m u2 n xb B0 BX cnt Ds codes done p s t vj gv gd w0 sl W) (y : Ext W W2) (hc : codes.contains (codeD (actD p t xk xu)) = true) :
 goesStops BX (RdI B tb rb gb qb rg mb pb ub c nq m u2 n xb B0 BX cnt Ds codes done p s t vj gv gd w0) Ix (sl ++ [(xk, xu)]) W .normal a W2 := by
 refine ⟨keeps_ext y, ?_⟩; obtain ⟨h1, h2⟩ := h.ext y; refine ⟨fun a ha => ?_, h2⟩
 rcases List.mem_append.1 ha with ha | ha
 · exact h1 a ha
 · rw [List.mem_singleton] at ha; subst ha; exact hc
end Go.Proofs.YtojobdffnnibaaaGreat
namespace Go.Proofs.YtojobdffnnibaaaGreat
set_option linter.unusedVariables false
theorem flags_nib {m m' : Nat} (h : flagsU (decU m) = flagsU (decU m')) : m % 16 = m' % 16 := by
 unfold flagsU decU at h; simp only [Prod.mk.injEq] at h; obtain ⟨h1, h2, h3, h4⟩ := h
 have bit : ∀ a b : Nat, (a % 2 == 1) = (b % 2 == 1) → a % 2 = b % 2 := fun a b e => by
  rw [Bool.eq_iff_iff, beq_iff_eq, beq_iff_eq] at e; omega
 have e1 := bit _ _ h1; have e2 := bit _ _ h2; have e3 := bit _ _ h3; have e4 := bit _ _ h4; omega
theorem code_dec {n c : Nat} (hn : n ≤ 3) : codeD (decD n c) = (c : Int) ↔ c / 6 / 16 ^ n = 0 := by
 obtain ⟨c', h1, h2, h3, h4⟩ := dec_code (decD_fit n c) hn
 constructor
 { intro h; have : c' = c := (by omega); rw [← this]; exact h3 }
 {
 intro h; have hd : ((c' % 3 : Nat) : Int) = ((c % 3 : Nat) : Int) := h2.dr; have hf : (c' / 3 % 2 == 1) = (c / 3 % 2 == 1) := h2.fo; rw [Bool.eq_iff_iff, beq_iff_eq, beq_iff_eq] at hf; have hu : ((List.range n).map fun j => decU (c' / 6 / 16 ^ j)).map flagsU = ((List.range n).map fun j => decU (c / 6 / 16 ^ j)).map flagsU := h2.un
 have key : ∀ j, j < n → c' / 6 / 16 ^ j % 16 = c / 6 / 16 ^ j % 16 := fun j hj => by
  have e := congrArg (fun l => l[j]?) hu; simp only [List.getElem?_map, List.getElem?_range hj, Option.map_some] at e; exact flags_nib (Option.some.inj e)
 have hq : c' / 6 = c / 6 := by
  have h0 := key 0; have hk1 := key 1; have hk2 := key 2; have : n = 0 ∨ n = 1 ∨ n = 2 ∨ n = 3 := by omega
  rcases this with rfl | rfl | rfl | rfl
  omega
  · have := h0 (by omega); omega
  · have := h0 (by omega); have := hk1 (by omega); omega
  · have := h0 (by omega); have := hk1 (by omega); have := hk2 (by omega); omega
 rw [h1]; have : c' = c := (by omega); rw [this]
 }
/-- The first look at a code. -/
def rok1 (g : GoalD) (n : Nat) (c : Int) : Bool := decide (0 ≤ c) && decide (c < 30000) && (codeD (decD n c.toNat) == c) && safeD (decD n c.toNat) && !fulD g (decD n c.toNat)
/-- The second one: no action leads out. -/
def rAct2 (p : PressD) (n : Nat) (codes : List Int) (c : Nat) (a : Int × Nat) : Bool := actErr p (decD n c) a.1 a.2 != 0 || codes.contains (codeD (actD p (decD n c) a.1 a.2))
def rok2 (p : PressD) (n : Nat) (codes : List Int) (c : Nat) : Bool := (kindsR n).all (rAct2 p n codes c)
theorem rok1_iff {g : GoalD} {n : Nat} (hn : n ≤ 3) (c : Int) : rok1 g n c = (decide (0 ≤ c) && (decOk n c.toNat && !fulD g (decD n c.toNat))) := by
 unfold rok1 decOk
 by_cases h0 : 0 ≤ c
 {
 obtain ⟨k, rfl⟩ : ∃ k : Nat, c = k := ⟨c.toNat, by omega⟩; rw [Int.toNat_natCast]
 have hp : 16 ^ n ≤ 4096 := by
  have : n = 0 ∨ n = 1 ∨ n = 2 ∨ n = 3 := by omega
  rcases this with rfl | rfl | rfl | rfl <;> decide
 by_cases hz : k / 6 / 16 ^ n = 0
 {
 have h1 : (codeD (decD n k) == (k:Int)) = true := by rw [beq_iff_eq]; exact (code_dec hn).2 hz
 have h2 : k / 6 < 16 ^ n := by
  rcases (Nat.div_eq_zero_iff).1 hz with h | h
  · have : 0 < 16 ^ n := Nat.pow_pos (by decide)
    omega
  · exact h
 have h3 : decide ((k:Int) < 30000) = true := decide_eq_true (by omega); have h4 : (k / 6 / 16 ^ n == 0) = true := (by rw [hz]; rfl); rw [h1, h3, h4]; simp
 }
 {
 have h1 : (codeD (decD n k) == (k:Int)) = false := by
  rw [beq_eq_false_iff_ne]; exact fun e => hz ((code_dec hn).1 e)
 have h4 : (k / 6 / 16 ^ n == 0) = false := (by rw [beq_eq_false_iff_ne]; exact hz); rw [h1, h4]; simp
 }
 }
 { have : decide (0 ≤ c) = false := decide_eq_false h0; rw [this]; simp }
theorem all_kindsR {p : PressD} {n c : Nat} {codes : List Int} : rok2 p n codes c = (kindsD n).all (rAct2 p n codes c) := by
 unfold rok2 kindsR; rw [Bool.eq_iff_iff, List.all_eq_true, List.all_eq_true]
 constructor
 {
 intro h a ha
 by_cases hq : (a.2 == 0 || decide (a.1 < 7) || a.1 == 12) = true
 · exact h a (List.mem_filter.2 ⟨ha, hq⟩)
 { have hl : (decD n c).units.length = n := (by simp [decD]); have := kindsR_err (p := p) (t := decD n c) (a := a) (by rw [hl]; exact ha) (by simpa using hq); unfold rAct2; rw [bne_iff_ne.2 this]; rfl }
 }
 · intro h a ha
   exact h a (List.mem_filter.1 ha).1
theorem rok_ok {p : PressD} {g : GoalD} {n : Nat} (hn : n ≤ 3) {codes : List Int} (c : Int) : refOk p g n codes c = (rok1 g n c && rok2 p n codes c.toNat) := by
 rw [rok1_iff hn, all_kindsR]; unfold refOk rAct2; rw [Bool.and_assoc, Bool.and_assoc]
/-- What the reference answers. -/
def rrD (p : PressD) (s : StD) (g : GoalD) (codes : List Int) : Int :=
 if goErr p s g ≠ 0 then goErr p s g else if 30000 < codes.length then 2 else if codes.all (rok1 g s.units.length) = false then 7 else if codes.contains (codeD s) = false then 7
 else if (List.range 30000).all (fun c => !codes.contains (c:Int) || rok2 p s.units.length codes c) then 0 else 7
theorem rrD_eq {p : PressD} {s : StD} {g : GoalD} (hn : goErr p s g = 0 → s.units.length ≤ 3) (codes : List Int) : rrD p s g codes = refD p s g codes := by
 unfold rrD refD
 by_cases h0 : goErr p s g ≠ 0
 · rw [if_pos h0, if_pos h0]
 {
 rw [if_neg h0, if_neg h0]; have hn3 := hn (by simpa using h0)
 by_cases h1 : 30000 < codes.length
 · rw [if_pos h1, if_pos h1]
 {
 rw [if_neg h1, if_neg h1]
 by_cases h2 : codes.contains (codeD s) = false
 · rw [if_pos h2, if_pos h2]
   split <;> rfl
 {
 rw [if_neg h2, if_neg h2]
 by_cases h3 : codes.all (rok1 g s.units.length) = false
 {
 rw [if_pos h3, if_neg]; intro h4; rw [List.all_eq_true] at h4
 have h5 : codes.all (rok1 g s.units.length) = true := by
  rw [List.all_eq_true]; intro c hc; have := h4 c hc; rw [rok_ok hn3, Bool.and_eq_true] at this; exact this.1
 rw [h5] at h3; cases h3
 }
 {
 rw [if_neg h3]; have h3' : codes.all (rok1 g s.units.length) = true := (by simpa using h3); rw [List.all_eq_true] at h3'
 have e : (List.range 30000).all (fun c => !codes.contains (c:Int) || rok2 p s.units.length codes c) = codes.all (refOk p g s.units.length codes) := by
  rw [Bool.eq_iff_iff, List.all_eq_true, List.all_eq_true]
  constructor
  {
  intro h c hc; have h6 := h3' c hc; have h7 := h6; unfold rok1 at h7; simp only [Bool.and_eq_true, decide_eq_true_eq] at h7; obtain ⟨k, rfl⟩ : ∃ k : Nat, c = k := ⟨c.toNat, by omega⟩; have h8 := h k (List.mem_range.2 (by omega)); have h9 : codes.contains ((k:Nat):Int) = true := (by simpa using hc); rw [h9] at h8; rw [rok_ok hn3, h6, Int.toNat_natCast]
  simpa using h8
  }
  {
  intro h c hc
  by_cases h9 : codes.contains (c:Int) = true
  { have h8 := h c (by simpa using h9); rw [rok_ok hn3, Bool.and_eq_true, Int.toNat_natCast] at h8; rw [h8.2]; simp }
  · have : codes.contains (c:Int) = false := by simpa using h9
    rw [this]; rfl
  }
 rw [e]
 }
 }
 }
 }
theorem dec_good {p : PressD} {s : StD} (g : Good p s) {c : Nat} (h : safeD (decD s.units.length c) = true) : Good p (decD s.units.length c) := by
 refine (good_iff _ _).1 ?_; unfold stErr; rw [if_neg (by rw [g.pe]; simp), if_pos]; rw [h, Bool.and_true]; unfold shapedD; have hl : (decD s.units.length c).units.length = s.units.length := (by simp [decD]); have hd := (decD_fit s.units.length c).dr; rw [hl, g.len]; have h1 : (decD s.units.length c).fresh = 0 := rfl
 have h2 : ((decD s.units.length c).units.all fun u => okInk u.ink) = true := by
  rw [List.all_eq_true]; intro u hu; unfold decD at hu; simp only [List.mem_map] at hu; obtain ⟨j, _, rfl⟩ := hu; show okInk 0 = true; decide
 rw [← g.len, h1, h2]; simp [hd]; decide
end Go.Proofs.YtojobdffnnibaaaGreat
namespace Go.Proofs.YtojobdffnnibaaaGreat
open Go.RowKit
set_option linter.unusedVariables false
set_option linter.unusedSimpArgs false
theorem decD_len (n k : Nat) : (decD n k).units.length = n := by simp [decD]
theorem decD_at (n k j : Nat) (h : j < n) : (decD n k).units[j]'(by rw [decD_len]; exact h) = decU (k / 6 / 16 ^ j) := by simp [decD]
theorem tUnitsS : SliceT Tryz.prog 25 63 (.agg #[.bool false, .bool false, .bool false, .bool false, .int .i64 0]) 5 16 := ⟨by kernel_rfl, by kernel_rfl, rfl, by decide, by decide⟩
set_option maxRecDepth 100000 in
set_option maxHeartbeats 4000000 in
theorem rSituation_any (p : PressD) (vj : Value) (k : Nat) (w : World) (hj : Truths w vj p.jam) (hl : p.jam.length ≤ 3) (hk : k < 30000) :
 Calls Tryz.prog 50 #[pV vj p, .int .i64 k] w fun e w' => ∃ v, e = .returned (sV v (decD p.jam.length k)) ∧ UnIn w' v (decD p.jam.length k).units ∧ Ext w w' := by
 obtain ⟨_, aj, cj, hvj, _⟩ := hj; rw [List.length_map] at hvj; subst hvj; obtain ⟨n, hn⟩ : ∃ n, p.jam.length = n := ⟨_, rfl⟩; unfold pV; rw [hn] at hl ⊢; clear hn
 go_enter Tryz.func50, Tryz.ntmps50
 go_upto_region 1 with (first
  | (with_reducible refine wpList_boxA (t := 24) (cs := #[.slice aj n cj, .int .i64 p.warm, .int .i64 p.tail, .int .i64 p.dirt]) rfl rfl rfl ?_
     rintro xb w1 hx1 hx2 hx3; have PB := Hd hx1; have X1 := Hd hx2; clear hx1 hx2
     clear hx3)
  | (with_reducible refine wpList_allocA (t := 27) rfl rfl Tryz.zeroValue27 ?_
     rintro rb w4 hy1 hy2 hy3; have pb2 := PB.out.ext hy2; have lr := Nat.le_trans X1.out.size hy3; have x2 := X1.out.tr hy2; clear PB X1; have PB := Hd pb2; have X1 := Hd x2; have RB := Hd hy1; have LR := Hd lr; clear pb2 x2 hy1 lr
     clear hy3 hy2))
 have t3 : ((k:Int) / 3 % 2 == 1) = (k / 3 % 2 == 1) := by
  rw [Bool.eq_iff_iff, beq_iff_eq, beq_iff_eq]; omega
 have t4 : (k:Int) % 3 = ((k % 3 : Nat) : Int) := (by omega); obtain ⟨b2, hb2⟩ : ∃ b, (k / 3 % 2 == 1) = b := ⟨_, rfl⟩; obtain ⟨z1, hz1⟩ : ∃ z : Int, ((k % 3 : Nat) : Int) = z := ⟨_, rfl⟩; rw [hz1] at t4; rw [hb2] at t3; have HB2 := Hd hb2; have HZ1 := Hd hz1; clear hb2 hz1
 go_upto_region 4 with (first
  | (with_reducible refine wpList_allocA (t := 27) rfl rfl Tryz.zeroValue27 ?_
     rintro nb w7 hy1 hy2 hy3; have ln : w4.heap.size ≤ nb := hy3; have rbl := RB.out.lt; have xbl := PB.out.lt; have hnr : nb ≠ rb := fun e => (by omega); have hnx : nb ≠ xb := fun e => (by omega); clear hy3 rbl xbl; have NB := Hd hy1; have Z := Hd hy2; have LN := Hd ln; have HNR := Hd hnr; have HNX := Hd hnx
     clear hy1 hy2 ln hnr hnx)
  | (with_reducible refine wpList_storeK (ty := 27) (cells := #[.int .i64 z1, .bool b2, .slice none 0 0, .int .i64 0]) rfl rfl NB.out ?_ ?_ ?_ ?_ ?_ ?_
     rfl
     · first | rfl | (trace_state; fail)
     rfl; rfl; simp [Value.oneCell']; rintro w8 hb ho; have hx := Z.out.then_only ho (fun k (e : k = nb) => by rw [e]; exact LN.out); have pb2 := PB.out.ext hx; have rb2 := RB.out.ext hx; have x2 := X1.out.tr hx; have lw := x2.size; have lnb := Nat.le_trans X1.out.size LN.out; clear RB X1 hx ho Z PB LN NB; have X1 := Hd x2; have RB := Hd rb2; have PB := Hd pb2; have NB := Hd hb; have LW := Hd lw; have LN := Hd lnb
     clear x2 rb2 pb2 hb lw lnb))
 have lrw : rb < w8.heap.size := RB.out.lt; clear t3 t4; have LRW := Hd lrw; clear lrw
 go_loopw [1, 6] (fun t1 t6 wr => ∃ (q : Nat) (v : Value), q ≤ n ∧ t1 = .int .i64 ((k / 6 / 16 ^ q : Nat) : Int) ∧ t6 = .int .i64 q ∧ Hid (Blk wr nb #[.int .i64 z1, .bool b2, v, .int .i64 0] 27) ∧ Hid (wr.ownsRow w8.heap.size 63 5 v q (uL ((decD n k).units.take q))) ∧ Hid (Only (fun b => b = nb) w8 wr)) (fun _ t6 _ => n - (intOf t6).toNat)
 case atStart => exact ⟨0, _, Nat.zero_le _, by simp, rfl, NB, World.ownsRow_nil _ _ _ _, Only.refl _ _⟩
 case round =>
  obtain ⟨q, v, hq, rfl, rfl, HNB, HO, HON⟩ := hrel; obtain ⟨a5, c5, rfl⟩ := row_form HO.out; obtain ⟨N, hN⟩ : ∃ N, k / 6 / 16 ^ q = N := ⟨_, rfl⟩; have hNb : N < 30000 := (by rw [← hN]; exact Nat.lt_of_le_of_lt (Nat.div_le_self _ _) (by omega)); rw [hN]; have pb5 := PB.out.only HON.out (fun e => HNX.out e.symm); have c1 := pb5.cell; clear pb5
  by_cases hlt : q < n
  {
  have a1 : ((N:Int) % 2 == 1) = (N % 2 == 1) := (by rw [Bool.eq_iff_iff, beq_iff_eq, beq_iff_eq]; omega); have a2 : ((N:Int) / 2 % 2 == 1) = (N / 2 % 2 == 1) := (by rw [Bool.eq_iff_iff, beq_iff_eq, beq_iff_eq]; omega); have a3 : ((N:Int) / 4 % 2 == 1) = (N / 4 % 2 == 1) := (by rw [Bool.eq_iff_iff, beq_iff_eq, beq_iff_eq]; omega); have a4 : ((N:Int) / 8 % 2 == 1) = (N / 8 % 2 == 1) := by rw [Bool.eq_iff_iff, beq_iff_eq, beq_iff_eq]; omega
  have hsn : uL ((decD n k).units.take (q + 1)) = uL ((decD n k).units.take q) ++ [.bool (N % 2 == 1), .bool (N / 2 % 2 == 1), .bool (N / 4 % 2 == 1), .bool (N / 8 % 2 == 1), .int .i64 0] := by
   unfold uL; rw [List.take_succ_eq_append_getElem (by rw [decD_len]; exact hlt), List.flatMap_append, decD_at n k q hlt, hN]; simp [uC, decU]
  have hnx : k / 6 / 16 ^ (q + 1) = N / 16 := (by rw [Nat.pow_succ, ← Nat.div_div_eq_div_mul, hN]); obtain ⟨b1, hb1⟩ : ∃ b, (N % 2 == 1) = b := ⟨_, rfl⟩; obtain ⟨b3, hb3⟩ : ∃ b, (N / 2 % 2 == 1) = b := ⟨_, rfl⟩; obtain ⟨b4, hb4⟩ : ∃ b, (N / 4 % 2 == 1) = b := ⟨_, rfl⟩; obtain ⟨b5, hb5⟩ : ∃ b, (N / 8 % 2 == 1) = b := ⟨_, rfl⟩; rw [hb1] at a1 hsn; rw [hb3] at a2 hsn; rw [hb4] at a3 hsn; rw [hb5] at a4 hsn; have i5 : (0:Int) ≤ (q:Int) := (by omega); have i6 : (q:Int) < (n:Int) := (by omega); have c2 := HNB.out.cell; clear hb1 hb3 hb4 hb5; have HSN := Hd hsn; have HNX2 := Hd hnx; clear hsn hnx
  go_wp2_with (first
   | (at_builtin
      refine wpList_app (n := q) (m := 1) tUnitsS rfl rfl (v := .slice a5 q c5) rfl (owns_ext HO.out (ext_lit _ _ _)) rfl (Src.lit _ [.bool b1, .bool b3, .bool b4, .bool b5, .int .i64 0] 1 5 rfl 63 1) (by simp [Value.oneCell']) (by omega) (Nat.le_trans HON.out.size (by simp)) ?_; rintro v' w12 t1 t2 t3; have xt := (HON.out.then (Only.of_ext (S := fun _ => False) (ext_lit wr _ _)) (fun _ _ h => h.elim)).then (only_grown t2) (fun b hb e => by have h1 := (HO.out.lt b e).1; omega); have hbs : ∀ b, (Value.slice a5 q c5).ownBlock = some b → w8.heap.size ≤ b := fun b hb => (HO.out.lt b hb).1; have nb2 := (HNB.out.ext (ext_lit wr _ _)).only (only_grown t2) (fun e => by have h1 := hbs _ e; have h2 := NB.out.lt; omega); rw [← HSN.out] at t1; obtain ⟨a6, c6', hv6⟩ := row_form t1; subst hv6; have hnn : ∀ b, (Value.slice a6 (q + 1) c6').ownBlock = some b → b ≠ nb := fun b hb e => (by have h1 := (t1.lt b hb).1; have h2 := NB.out.lt; omega); clear c1 c2 HO HON HNB; have HO := Hd t1; have HON := Hd xt; have HNB := Hd nb2; have HNN := Hd hnn; clear t1 xt nb2 hnn
      clear t2 t3 hbs)
   | (with_reducible refine wpList_setK (b := nb) (i := 2) (v := .slice a6 (q + 1) c6') rfl rfl HNB.out ?_ ?_ ?_ ?_ ?_ ?_ ?_
      rfl; rfl
      · simp
      rfl; rfl; rfl; rintro wS hbS hoS; have ho2 := owns_only HO.out hoS HNN.out; have hn2 := HON.out.tr hoS; have hb2 : Blk wS nb #[.int .i64 z1, .bool b2, .slice a6 (q + 1) c6', .int .i64 0] 27 := hbS; clear HO HON HNB hbS hoS; have HO := Hd ho2; have HON := Hd hn2; have HNB := Hd hb2
      clear ho2 hn2 hb2))
  go_roundw
  case rel => exact ⟨q + 1, _, by omega, by rw [HNX2.out]; simp, by go_num, HNB, HO, HON⟩
  case measure => simp [intOf] <;> omega
  }
  {
  have i6 : decide ((q:Int) < (n:Int)) = false := decide_eq_false (by omega); obtain rfl : n = q := (by omega); have ho := HO.out; rw [List.take_of_length_le (by rw [decD_len]; exact Nat.le_refl _)] at ho; have x2 := X1.out.then_only HON.out (fun b (e : b = nb) => by rw [e]; exact LN.out); have rb2 := RB.out.only HON.out (fun e => HNR.out e.symm); have c2 := HNB.out.cell; clear HO X1 RB; have HO := Hd ho; have X1 := Hd x2; have RB := Hd rb2; clear ho x2 rb2
  go_wp2_with (
   (with_reducible refine wpList_storeK (ty := 27) (cells := #[.int .i64 z1, .bool b2, .slice a5 n c5, .int .i64 0]) rfl rfl RB.out ?_ ?_ ?_ ?_ ?_ ?_); rfl; rfl; rfl; rfl; simp [Value.oneCell']; rintro w9 hb ho; have k0 := hb.cell; have x2 := X1.out.then_only ho (fun k (e : k = rb) => by rw [e]; exact LR.out); have ho2 := owns_only HO.out ho (fun b hb (e : b = rb) => by have h1 := (HO.out.lt b hb).1; have h2 := LRW.out; omega); clear X1 HO RB ho hb c2 c1; have X1 := Hd x2; have HO := Hd ho2
   clear x2 ho2)
  refine bodyPost_ret (v := .agg #[.int .i64 z1, .bool b2, .slice a5 n c5, .int .i64 0]) (by simp [results, Tryz.results50, go_sem, k0]) rfl ?_; refine ⟨.slice a5 n c5, ?_, UnIn.of_owns (by rw [decD_len]; exact HO.out) (by rw [decD_len]; omega), X1.out⟩; unfold sV decD; dsimp only; rw [HZ1.out, HB2.out]
  }
end Go.Proofs.YtojobdffnnibaaaGreat