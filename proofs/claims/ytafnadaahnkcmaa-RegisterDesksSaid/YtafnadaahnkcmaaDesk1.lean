/- A desk in memory: what its blocks hold, told by roles; and what a reading makes of it, in plain words. -/
import Derived.Test.YtafnadaahnkcmaaDesk0
import Derived.Test.YtafnadaahnkcmaaPlay2
import Derived.Test.YtafnadaahnkcmaaMatchT
namespace Go.Proofs.Ytafnadaahnkcmaa
open Go.RowKit
set_option linter.unusedVariables false

structure DeskD where
  pat : List Int
  win : Int
  limit : Int
  loops : List Loop
  qs : List (List Int)
  copies : List CopyD

instance : Inhabited Loop := ⟨⟨0, 0, 0, 0⟩⟩
def DeskD.n (d : DeskD) : Nat := d.loops.length
def DeskD.loop (d : DeskD) (i : Nat) : Loop := d.loops.getD i default
def DeskD.q (d : DeskD) (i : Nat) : List Int := d.qs.getD i []
def DeskD.copy (d : DeskD) (i : Nat) : CopyD := d.copies.getD i default

/-- Where a desk's parts lie. -/
structure DMem where
  mb : Nat
  vp : Value
  vl : Value
  vc : Value
  qb : Nat → Nat
  g : Nat → Nat
  es : Nat → Value
  ms : Nat → Value

/-- A row whose block has the role r. -/
def Row (ρ : Nat → Nat) (r : Nat) (w : World) (e : TypeId) (size : Nat) (v : Value) (n : Nat) (xs : List Value) : Prop :=
  w.ownsRow 0 e size v n xs ∧ ∀ b, v.ownBlock = some b → ρ b = r
theorem Row.only {ρ : Nat → Nat} {r : Nat} {w w' : World} {e : TypeId} {size n : Nat} {v : Value} {xs : List Value} {S : Nat → Prop} (h : Row ρ r w e size v n xs) (k : Only S w w') (hs : ∀ k, ρ k = r → ¬ S k) : Row ρ r w' e size v n xs :=
  ⟨owns_only h.1 k fun b hb => hs b (h.2 b hb), h.2⟩
theorem Row.role {ρ ρ' : Nat → Nat} {r : Nat} {w : World} {e : TypeId} {size n : Nat} {v : Value} {xs : List Value} (h : Row ρ r w e size v n xs) (hr : ∀ k, k < w.heap.size → ρ' k = ρ k) : Row ρ' r w e size v n xs :=
  ⟨h.1, fun b hb => (hr b (h.1.lt b hb).2).trans (h.2 b hb)⟩
theorem Row.ints {ρ : Nat → Nat} {r : Nat} {w : World} {v : Value} {n : Nat} {xs : List Int} (h : Row ρ r w 3 1 v n (xs.map (.int .i64))) : Ints w v xs := Sl.of_owns h.1

def ctlC (l : Loop) (qb : Nat) : List Value := [.int .i64 l.dead, .int .i64 l.noise, .int .i64 l.blur, .int .i64 l.step, .pointer (some ⟨qb, 0, none⟩)]
def ctlL (loops : List Loop) (qb : Nat → Nat) (n : Nat) : List Value := (List.range n).flatMap fun i => ctlC (loops.getD i default) (qb i)
def cpC (c : CopyD) (ve vm : Value) : List Value := [.bool c.good, .int .i64 c.shift, ve, vm]
def cpL (cs : List CopyD) (es ms : Nat → Value) (n : Nat) : List Value := (List.range n).flatMap fun i => cpC (cs.getD i default) (es i) (ms i)

theorem flat_get {f : Nat → List Value} {z : Nat} (hz : ∀ i, (f i).length = z) (n i j : Nat) (hi : i < n) (hj : j < z) : ((List.range n).flatMap f)[i * z + j]? = (f i)[j]? := by
  have hl : ∀ m, ((List.range m).flatMap f).length = m * z := by
    intro m
    induction m with
    | zero => simp
    | succ m ih => rw [List.range_succ, List.flatMap_append, List.length_append, ih, Nat.succ_mul]; simp [hz]
  induction n with
  | zero => omega
  | succ n ih =>
    rw [List.range_succ, List.flatMap_append]
    by_cases hin : i < n
    · have h1 : i * z + j < n * z := by
        have h2 : (i + 1) * z ≤ n * z := Nat.mul_le_mul_right z hin
        rw [Nat.succ_mul] at h2; omega
      rw [List.getElem?_append_left (by rw [hl]; exact h1)]
      exact ih hin
    · obtain rfl : i = n := by omega
      rw [List.getElem?_append_right (by rw [hl]; omega), hl]
      simp

/-- The numbers of a desk are right. -/
structure DOk (d : DeskD) : Prop where
  p1 : 2 ≤ d.pat.length
  p2 : d.pat.length ≤ 12
  pn : d.n + 1 = d.pat.length
  qn : d.qs.length = d.n
  good : GoodP d.pat d.win
  lim : 0 ≤ d.limit ∧ d.limit ≤ 1000000
  ok : ∀ i, i < d.n → (d.loop i).Ok
  ql : ∀ i, i < d.n → ((d.q i).length : Int) = (d.loop i).dead
  qb : ∀ i, i < d.n → ∀ x ∈ d.q i, -10000 ≤ x ∧ x ≤ 10000

/-- A desk in memory. Roles: 0 not the desk's, 1 its block, 2 the row of its copies, 3 what is only read, 4 the row of its loops, 5 + 2 i a queue, 6 + 2 i a queue's row. -/
structure DSt (w : World) (db : Nat) (d : DeskD) (m : DMem) (ρ : Nat → Nat) : Prop where
  hlt : ∀ k, ρ k ≠ 0 → k < w.heap.size
  rdb : ρ db = 1
  desk : Blk w db #[.pointer (some ⟨m.mb, 0, none⟩), m.vl, .int .i64 d.limit, m.vc] 102
  rmb : ρ m.mb = 3
  marks : Blk w m.mb #[m.vp, .int .i64 d.win] 85
  pat : Row ρ 3 w 3 1 m.vp d.pat.length (d.pat.map (.int .i64))
  loops : Row ρ 4 w 95 5 m.vl d.n (ctlL d.loops m.qb d.n)
  rq : ∀ i, i < d.n → ρ (m.qb i) = 5 + 2 * i
  rg : ∀ i, i < d.n → ρ (m.g i) = 6 + 2 * i
  qst : ∀ i, i < d.n → QSt w (m.qb i) (m.g i) (d.q i)
  cps : Row ρ 2 w 59 4 m.vc d.copies.length (cpL d.copies m.es m.ms d.copies.length)
  es : ∀ i, i < d.copies.length → Row ρ 3 w 3 1 (m.es i) (d.copy i).errs.length ((d.copy i).errs.map (.int .i64))
  ms : ∀ i, i < d.copies.length → Row ρ 3 w 3 1 (m.ms i) (d.copy i).moves.length ((d.copy i).moves.map (.int .i64))

theorem DSt.only {w w' : World} {db : Nat} {d : DeskD} {m : DMem} {ρ : Nat → Nat} {S : Nat → Prop} (h : DSt w db d m ρ) (k : Only S w w') (hs : ∀ k, S k → ρ k = 0) : DSt w' db d m ρ := by
  have no : ∀ r, r ≠ 0 → ∀ k, ρ k = r → ¬ S k := fun r hr k hk hS => hr (hk.symm.trans (hs k hS))
  exact {
    hlt := fun b hb => Nat.lt_of_lt_of_le (h.hlt b hb) k.size
    rdb := h.rdb
    desk := h.desk.only k (no 1 (by omega) _ h.rdb)
    rmb := h.rmb
    marks := h.marks.only k (no 3 (by omega) _ h.rmb)
    pat := h.pat.only k (no 3 (by omega))
    loops := h.loops.only k (no 4 (by omega))
    rq := h.rq
    rg := h.rg
    qst := fun i hi => (h.qst i hi).only k (no _ (by omega) _ (h.rq i hi)) (no _ (by omega) _ (h.rg i hi))
    cps := h.cps.only k (no 2 (by omega))
    es := fun i hi => (h.es i hi).only k (no 3 (by omega))
    ms := fun i hi => (h.ms i hi).only k (no 3 (by omega)) }
theorem DSt.ext {w w' : World} {db : Nat} {d : DeskD} {m : DMem} {ρ : Nat → Nat} (h : DSt w db d m ρ) (k : Ext w w') : DSt w' db d m ρ :=
  h.only (S := fun _ => False) (Only.of_ext k) (fun _ hk => hk.elim)

def upd {α : Type} (f : Nat → α) (i : Nat) (x : α) : Nat → α := fun j => if j = i then x else f j
theorem upd_same {α : Type} (f : Nat → α) (i : Nat) (x : α) : upd f i x i = x := by simp [upd]
theorem upd_other {α : Type} (f : Nat → α) (i j : Nat) (x : α) (h : j ≠ i) : upd f i x j = f j := by simp [upd, h]

/-- One queue has moved on. -/
theorem DSt.put {w w' : World} {db : Nat} {d : DeskD} {m : DMem} {ρ : Nat → Nat} (h : DSt w db d m ρ) (hqn : d.qs.length = d.n) {i : Nat} (hi : i < d.n) {g' : Nat} {q' : List Int}
    (hq : QSt w' (m.qb i) g' q') (hg : g' = m.g i ∨ w.heap.size ≤ g') (k : Only (fun k => k = m.g i ∨ k = m.qb i) w w') :
    DSt w' db { d with qs := d.qs.set i q' } { m with g := upd m.g i g' } (upd ρ g' (6 + 2 * i)) ∧ ∀ b, b < w.heap.size → upd ρ g' (6 + 2 * i) b = ρ b := by
  have hold : ∀ b, b < w.heap.size → upd ρ g' (6 + 2 * i) b = ρ b := fun b hb => by
    by_cases e : b = g'
    · subst e
      rcases hg with hg | hg
      · rw [upd_same, hg, h.rg i hi]
      · omega
    · exact upd_other _ _ _ _ e
  have no : ∀ r, r ≠ 5 + 2 * i → r ≠ 6 + 2 * i → ∀ k, ρ k = r → ¬ (k = m.g i ∨ k = m.qb i) := fun r h4 h5 k hk hS => by
    rcases hS with rfl | rfl
    · rw [h.rg i hi] at hk; omega
    · rw [h.rq i hi] at hk; omega
  have qlt : ∀ j, j < d.n → m.qb j < w.heap.size := fun j hj => (h.qst j hj).lt.1
  have glt : ∀ j, j < d.n → m.g j < w.heap.size := fun j hj => (h.qst j hj).lt.2
  refine ⟨{
    hlt := fun b hb => ?_
    rdb := (hold db h.desk.lt).trans h.rdb
    desk := h.desk.only k (no 1 (by omega) (by omega) _ h.rdb)
    rmb := (hold _ h.marks.lt).trans h.rmb
    marks := h.marks.only k (no 3 (by omega) (by omega) _ h.rmb)
    pat := (h.pat.role hold).only k (fun b hb => ?_)
    loops := (h.loops.role hold).only k (fun b hb => ?_)
    rq := fun j hj => (hold _ (qlt j hj)).trans (h.rq j hj)
    rg := fun j hj => ?_
    qst := fun j hj => ?_
    cps := (h.cps.role hold).only k (fun b hb => ?_)
    es := fun j hj => ((h.es j hj).role hold).only k (fun b hb => ?_)
    ms := fun j hj => ((h.ms j hj).role hold).only k (fun b hb => ?_) }, hold⟩
  · by_cases e : b = g'
    · subst e; exact hq.lt.2
    · rw [upd_other _ _ _ _ e] at hb; exact Nat.lt_of_lt_of_le (h.hlt b hb) k.size
  all_goals first
    | (intro hS
       have hbl : b < w.heap.size := by rcases hS with rfl | rfl; exact glt i hi; exact qlt i hi
       rw [hold b hbl] at hb
       exact no _ (by omega) (by omega) b hb hS)
    | skip
  · show upd ρ g' (6 + 2 * i) (upd m.g i g' j) = 6 + 2 * j
    by_cases e : j = i
    · subst e; rw [upd_same, upd_same]
    · rw [upd_other _ _ _ _ e, hold _ (glt j hj)]; exact h.rg j hj
  · show QSt w' (m.qb j) (upd m.g i g' j) ((d.qs.set i q').getD j [])
    by_cases e : j = i
    · subst e
      rw [upd_same]
      have : (d.qs.set j q').getD j [] = q' := by simp [List.getD, show j < d.qs.length by omega]
      rw [this]; exact hq
    · rw [upd_other _ _ _ _ e]
      have : (d.qs.set i q').getD j [] = d.q j := by simp [DeskD.q, List.getD, Ne.symm e]
      rw [this]
      exact (h.qst j hj).only k (no _ (by omega) (by omega) _ (h.rq j hj)) (no _ (by omega) (by omega) _ (h.rg j hj))

theorem flat_congr {α β : Type} {f g : α → List β} : ∀ {l : List α}, (∀ x ∈ l, f x = g x) → l.flatMap f = l.flatMap g := by
  intro l
  induction l with
  | nil => intro _; rfl
  | cons x l ih => intro h; simp only [List.flatMap_cons]; rw [h x (by simp), ih (fun y hy => h y (by simp [hy]))]
theorem ctlL_snoc (loops : List Loop) (x : Loop) (qb : Nat → Nat) (b : Nat) : ctlL (loops ++ [x]) (upd qb loops.length b) (loops.length + 1) = ctlL loops qb loops.length ++ ctlC x b := by
  unfold ctlL
  rw [List.range_succ, List.flatMap_append]
  congr 1
  · apply flat_congr
    intro i hi
    have hi' : i < loops.length := List.mem_range.1 hi
    rw [upd_other _ _ _ _ (by omega)]
    congr 1
    simp [List.getD, List.getElem?_append_left hi']
  · simp [upd_same, List.getD]

/-- A loop more. -/
theorem DSt.addLoop {w w2 w3 w4 w5 : World} {db : Nat} {d : DeskD} {m : DMem} {ρ : Nat → Nat} (h : DSt w db d m ρ) (hqn : d.qs.length = d.n) {x : Loop} {qb g : Nat} {q : List Int} {v' : Value}
    (hq : QSt w2 qb g q) (hqb : w.heap.size ≤ qb) (hg : w.heap.size ≤ g) (hx : Ext w w2) (hx3 : Ext w2 w3)
    (hown : w4.ownsRow 0 95 5 v' (d.n + 1) (ctlL d.loops m.qb d.n ++ ctlC x qb)) (hgr : w3.grownBy w4 m.vl.ownBlock) (hf : FreshOr w3 m.vl v') (hw5 : w5 = w4.setCell ⟨db, 1, none⟩ v') :
    ∃ ρ', DSt w5 db { d with loops := d.loops ++ [x], qs := d.qs ++ [q] } { m with vl := v', qb := upd m.qb d.n qb, g := upd m.g d.n g } ρ' ∧ (∀ b, b < w.heap.size → ρ' b = ρ b) ∧ Only (fun k => m.vl.ownBlock = some k ∨ k = db) w w5 := by
  subst hw5
  have o4 : Only (fun k => m.vl.ownBlock = some k) w w4 := ((Only.of_ext hx).tr (Only.of_ext hx3)).tr (only_grown hgr)
  have o5 : Only (fun k => k = db) w4 (w4.setCell ⟨db, 1, none⟩ v') := Only.set _ _ _ rfl
  have o : Only (fun k => m.vl.ownBlock = some k ∨ k = db) w (w4.setCell ⟨db, 1, none⟩ v') := (o4.weak (fun k _ hk => .inl hk)).tr (o5.weak (fun k _ hk => .inr hk))
  have s2 := hx.size
  have s3 := hx3.size
  have s4 := hgr.size
  have s5 := o5.size
  have hql := hq.lt
  have hne := hq.1
  have hvl : ∀ b, m.vl.ownBlock = some b → b < w.heap.size := fun b hb => (h.loops.1.lt b hb).2
  have hvn : ∀ b, v'.ownBlock = some b → b < w4.heap.size := fun b hb => (hown.lt b hb).2
  have hv' : ∀ b, v'.ownBlock = some b → m.vl.ownBlock = some b ∨ w3.heap.size ≤ b := fun b hb => by
    rcases hf with hf | ⟨c, hc, hle⟩
    · exact .inl (hf ▸ hb)
    · rw [hc] at hb; cases hb; exact .inr hle
  obtain ⟨ρ', hρ⟩ : ∃ ρ' : Nat → Nat, ρ' = fun b => if b = qb then 5 + 2 * d.n else if b = g then 6 + 2 * d.n else if v'.ownBlock = some b then 4 else ρ b := ⟨_, rfl⟩
  have hold : ∀ b, b < w.heap.size → ρ' b = ρ b := fun b hb => by
    rw [hρ]; dsimp only
    rw [if_neg (by omega), if_neg (by omega)]
    split
    · rename_i hvb
      rcases hv' b hvb with h1 | h1
      · exact (h.loops.2 b h1).symm
      · omega
    · rfl
  have hrv : ∀ b, v'.ownBlock = some b → ρ' b = 4 := fun b hb => by
    rw [hρ]; dsimp only
    have hbq : b ≠ qb ∧ b ≠ g := by
      rcases hv' b hb with h1 | h1
      · have := hvl b h1; constructor <;> omega
      · constructor <;> omega
    rw [if_neg hbq.1, if_neg hbq.2, if_pos hb]
  have no : ∀ r, r ≠ 4 → r ≠ 1 → ∀ k, ρ k = r → ¬ (m.vl.ownBlock = some k ∨ k = db) := fun r h4 h1 k hk hS => by
    rcases hS with hS | rfl
    · rw [h.loops.2 k hS] at hk; omega
    · rw [h.rdb] at hk; omega
  have no' : ∀ r, r ≠ 4 → r ≠ 1 → ∀ k, k < w.heap.size → ρ' k = r → ¬ (m.vl.ownBlock = some k ∨ k = db) := fun r h4 h1 k hk hr => no r h4 h1 k ((hold k hk).symm.trans hr)
  have keep : ∀ {r : Nat} {e : TypeId} {size n : Nat} {v : Value} {xs : List Value}, Row ρ r w e size v n xs → r ≠ 4 → r ≠ 1 → Row ρ' r (w4.setCell ⟨db, 1, none⟩ v') e size v n xs := fun hr h4 h1 =>
    ⟨owns_only hr.1 o fun b hb => no _ h4 h1 b (hr.2 b hb), fun b hb => (hold b (hr.1.lt b hb).2).trans (hr.2 b hb)⟩
  have hdbv : ∀ k, v'.ownBlock = some k → k ≠ db := fun k hk e => by
    have h1 := hrv k hk
    rw [e, hold db h.desk.lt, h.rdb] at h1; omega
  have hn : ({ d with loops := d.loops ++ [x], qs := d.qs ++ [q] } : DeskD).n = d.n + 1 := by simp [DeskD.n]
  refine ⟨ρ', {
    hlt := fun b hb => ?_
    rdb := (hold db h.desk.lt).trans h.rdb
    desk := ?_
    rmb := (hold _ h.marks.lt).trans h.rmb
    marks := h.marks.only o (no 3 (by omega) (by omega) _ h.rmb)
    pat := keep h.pat (by omega) (by omega)
    loops := ?_
    rq := fun j hj => ?_
    rg := fun j hj => ?_
    qst := fun j hj => ?_
    cps := keep h.cps (by omega) (by omega)
    es := fun i hi => keep (h.es i hi) (by omega) (by omega)
    ms := fun i hi => keep (h.ms i hi) (by omega) (by omega) }, hold, o⟩
  · rw [hρ] at hb; dsimp only at hb
    split at hb
    · omega
    · split at hb
      · omega
      · split at hb
        · rename_i hvb; have := hvn b hvb; omega
        · have := h.hlt b hb; omega
  · have hd4 : Blk w4 db #[.pointer (some ⟨m.mb, 0, none⟩), m.vl, .int .i64 d.limit, m.vc] 102 := h.desk.only o4 (fun hS => by have := h.loops.2 db hS; rw [h.rdb] at this; omega)
    exact blk_set hd4 1 v'
  · refine ⟨?_, hrv⟩
    rw [hn]
    show (w4.setCell ⟨db, 1, none⟩ v').ownsRow 0 95 5 v' (d.n + 1) (ctlL (d.loops ++ [x]) (upd m.qb d.n qb) (d.n + 1))
    have e1 : ctlL (d.loops ++ [x]) (upd m.qb d.n qb) (d.n + 1) = ctlL d.loops m.qb d.n ++ ctlC x qb := ctlL_snoc d.loops x m.qb qb
    rw [e1]
    exact owns_only hown o5 fun k hk => hdbv k hk
  · rw [hn] at hj
    show ρ' (upd m.qb d.n qb j) = 5 + 2 * j
    by_cases e : j = d.n
    · subst e; rw [upd_same, hρ]; simp
    · rw [upd_other _ _ _ _ e, hold _ (h.qst j (by omega)).lt.1]; exact h.rq j (by omega)
  · rw [hn] at hj
    show ρ' (upd m.g d.n g j) = 6 + 2 * j
    by_cases e : j = d.n
    · subst e; rw [upd_same, hρ]; simp [hne]
    · rw [upd_other _ _ _ _ e, hold _ (h.qst j (by omega)).lt.2]; exact h.rg j (by omega)
  · rw [hn] at hj
    show QSt _ (upd m.qb d.n qb j) (upd m.g d.n g j) ((d.qs ++ [q]).getD j [])
    by_cases e : j = d.n
    · subst e
      rw [upd_same, upd_same]
      have e2 : (d.qs ++ [q]).getD d.n [] = q := by rw [← hqn]; simp [List.getD]
      rw [e2]
      have q4 := (hq.ext hx3).only (only_grown hgr) (fun hS => by have := hvl qb hS; omega) (fun hS => by have := hvl g hS; omega)
      have hdl := h.desk.lt
      exact q4.only o5 (fun hS => by omega) (fun hS => by omega)
    · rw [upd_other _ _ _ _ e, upd_other _ _ _ _ e]
      have e2 : (d.qs ++ [q]).getD j [] = d.q j := by simp [DeskD.q, List.getD, List.getElem?_append_left (show j < d.qs.length by omega)]
      rw [e2]
      exact (h.qst j (by omega)).only o (no _ (by omega) (by omega) _ (h.rq j (by omega))) (no _ (by omega) (by omega) _ (h.rg j (by omega)))
end Go.Proofs.Ytafnadaahnkcmaa
