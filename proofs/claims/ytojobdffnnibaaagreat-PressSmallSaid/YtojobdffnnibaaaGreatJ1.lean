/- Printing, copy by copy and at once, in plain words. A press, its states and its actions, in plain words. How much the pressed towers are inked, in plain words. The search through the situations of a press, in plain words. The code of a situation, in plain words. The program that a search found, in plain words. -/
import Derived.OpenShut
namespace Go.Proofs.YtojobdffnnibaaaGreat
set_option linter.unusedVariables false
/-- A span of waste: its cause, its first and its last copy. -/
structure SpanD where
 cause : Int
 lo : Int
 hi : Int
/-- How many of the first n copies are waste for the cold. -/
def wmN (W f n : Int) : Int := min (max (W - f) 0) n
/-- The spans of the first n copies, at once. -/
def spansN (W f D k n : Int) : List SpanD :=
 (if 0 < wmN W f n then [⟨1, 0, wmN W f n - 1⟩] else []) ++ (if max (wmN W f n) (D - k) < n then [⟨2, max (wmN W f n) (D - k), n - 1⟩] else [])
/-- The cause of copy n: k is how much the dirtiest pressed tower is inked, f how many copies are fresh. -/
def causeN (W f D k n : Int) : Int := if f + n < W then 1 else if D ≤ k + n then 2 else 0
/-- A copy more, as the reference has it. -/
def addSpan (l : List SpanD) (n c : Int) : List SpanD :=
 if c = 0 then l else
  match l.getLast? with
  | some x => if x.cause = c ∧ x.hi = n - 1 then l.dropLast ++ [⟨x.cause, x.lo, n⟩] else l ++ [⟨c, n, n⟩]
  | none => l ++ [⟨c, n, n⟩]
theorem addSpan_nil (n c : Int) (hc : c ≠ 0) : addSpan [] n c = [⟨c, n, n⟩] := by
 unfold addSpan; rw [if_neg hc]; rfl
theorem addSpan_same (l : List SpanD) (x : SpanD) (n : Int) (hc : x.cause ≠ 0) (h : x.hi = n - 1) : addSpan (l ++ [x]) n x.cause = l ++ [⟨x.cause, x.lo, n⟩] := by
 unfold addSpan; rw [if_neg hc]; simp [h]
theorem addSpan_new (l : List SpanD) (x : SpanD) (n c : Int) (hc : c ≠ 0) (h : ¬ (x.cause = c ∧ x.hi = n - 1)) : addSpan (l ++ [x]) n c = l ++ [x] ++ [⟨c, n, n⟩] := by
 unfold addSpan; rw [if_neg hc]; simp [h]
theorem spansN_zero (W f D k : Int) (hk : 0 ≤ k) : spansN W f D k 0 = [] := by
 unfold spansN wmN; rw [if_neg (by omega), if_neg (by omega)]; rfl
theorem spansN_succ (W f D k n : Int) (hn : 0 ≤ n) (hD : 0 ≤ D) : addSpan (spansN W f D k n) n (causeN W f D k n) = spansN W f D k (n + 1) := by
 unfold causeN
 by_cases h1 : f + n < W
 {
 -- all copies up to here are cold
 rw [if_pos h1]; have e1 : wmN W f n = n := (by unfold wmN; omega); have e2 : wmN W f (n + 1) = n + 1 := (by unfold wmN; omega); unfold spansN; rw [e1, e2, if_neg (show ¬ max n (D - k) < n by omega), if_neg (show ¬ max (n + 1) (D - k) < n + 1 by omega), List.append_nil, List.append_nil, if_pos (show (0:Int) < n + 1 by omega)]
 by_cases h0 : 0 < n
 { rw [if_pos h0]; have := addSpan_same [] ⟨1, 0, n - 1⟩ n (by simp) rfl; simp only [List.nil_append] at this; rw [this, show n + 1 - 1 = n by omega] }
 { obtain rfl : n = 0 := (by omega); rw [if_neg (by omega), addSpan_nil _ _ (by decide)]; rfl }
 }
 {
 rw [if_neg h1]; have e2 : wmN W f (n + 1) = wmN W f n := (by unfold wmN; omega); have e3 : wmN W f n ≤ n := (by unfold wmN; omega); obtain ⟨wm, hwm⟩ : ∃ wm, wm = wmN W f n := ⟨_, rfl⟩; unfold spansN; rw [e2, ← hwm]; rw [← hwm] at e3
 by_cases h2 : D ≤ k + n
 {
 rw [if_pos h2, if_pos (show max wm (D - k) < n + 1 by omega)]
 by_cases h3 : max wm (D - k) < n
 { rw [if_pos h3]; have := addSpan_same (if 0 < wm then [⟨1, 0, wm - 1⟩] else []) ⟨2, max wm (D - k), n - 1⟩ n (by simp) rfl; rw [this, show n + 1 - 1 = n by omega] }
 {
 rw [if_neg h3, List.append_nil]; have e4 : max wm (D - k) = n := (by omega); rw [e4, show n + 1 - 1 = n by omega]
 by_cases h4 : 0 < wm
 { rw [if_pos h4]; have := addSpan_new [] ⟨1, 0, wm - 1⟩ n 2 (by decide) (fun h => by have := h.1; simp at this); simp only [List.nil_append] at this; exact this }
 · rw [if_neg h4, addSpan_nil _ _ (by decide)]
   rfl
 }
 }
 { rw [if_neg h2, if_neg (show ¬ max wm (D - k) < n by omega), if_neg (show ¬ max wm (D - k) < n + 1 by omega)]; unfold addSpan; rw [if_pos rfl] }
 }
structure UnitD where
 op : Bool
 th : Bool
 cl : Bool
 pr : Bool
 ink : Int
structure StD where
 drive : Int
 folder : Bool
 units : List UnitD
 fresh : Int
structure PressD where
 jam : List Bool
 warm : Int
 tail : Int
 dirt : Int
instance : Inhabited UnitD := ⟨⟨false, false, false, false, 0⟩⟩
def okN (n : Int) : Bool := decide (0 ≤ n) && decide (n ≤ 10000)
/-- The error of a press. -/
def pErr (p : PressD) : Int := if p.jam.length < 1 ∨ 3 < p.jam.length then 2 else if okN p.warm && okN p.tail && okN p.dirt then 0 else 81
def opened (s : StD) : Bool := s.folder || s.units.any (·.op)
def anyPr (s : StD) : Bool := s.units.any (·.pr)
def okInk (n : Int) : Bool := decide (0 ≤ n) && decide (n ≤ 1000000)
def shapedD (p : PressD) (s : StD) : Bool := (s.units.length == p.jam.length) && (decide (0 ≤ s.drive) && decide (s.drive ≤ 2)) && okInk s.fresh && !(s.drive != 2 && s.fresh != 0) && s.units.all fun u => okInk u.ink
/-- A state is safe. -/
def safeD (s : StD) : Bool := !(s.drive != 0 && opened s) && !(s.units.any fun u => u.pr && (!u.th || s.drive == 0)) && (s.drive != 2 || anyPr s)
/-- The error of a press and a state. -/
def stErr (p : PressD) (s : StD) : Int := if pErr p ≠ 0 then pErr p else if shapedD p s && safeD s then 0 else 9
/-- In the reference's words. -/
def nOpen (s : StD) : Nat := (if s.folder then 1 else 0) + (s.units.filter (·.op)).length
def nPr (s : StD) : Nat := (s.units.filter (·.pr)).length
def safeR (s : StD) : Bool := !(s.units.any fun u => u.pr && !u.th) && (if s.drive = 0 then nPr s == 0 else if s.drive = 1 then nOpen s == 0 else nOpen s == 0 && decide (0 < nPr s))
theorem any_filter {α : Type} (f : α → Bool) (l : List α) : l.any f = decide (0 < (l.filter f).length) := by
 rw [Bool.eq_iff_iff, List.any_eq_true, decide_eq_true_eq, List.length_pos_iff_exists_mem]; simp [List.mem_filter]
theorem opened_n (s : StD) : opened s = decide (0 < nOpen s) := by
 unfold opened nOpen; rw [any_filter]
 cases s.folder
 · simp
 · simp; omega
theorem anyPr_n (s : StD) : anyPr s = decide (0 < nPr s) := any_filter _ _
theorem safe_eq (s : StD) (h : 0 ≤ s.drive ∧ s.drive ≤ 2) : safeR s = safeD s := by
 have hp : nPr s = 0 → ∀ u ∈ s.units, u.pr = false := fun h0 u hu => by
  have h1 : anyPr s = false := (by rw [anyPr_n, h0]; rfl); unfold anyPr at h1; rw [List.any_eq_false] at h1
  simpa using h1 u hu
 have hd : s.drive = 0 ∨ s.drive = 1 ∨ s.drive = 2 := (by omega); unfold safeR safeD; rw [opened_n, anyPr_n]
 rcases hd with hd | hd | hd
 {
 rw [hd]
 have e : (s.units.any fun u => u.pr && (!u.th || (0:Int) == 0)) = decide (0 < nPr s) := by
  rw [← anyPr_n]; unfold anyPr; congr 1; funext u; simp
 rw [e]
 by_cases h0 : nPr s = 0
 {
 have e2 : (s.units.any fun u => u.pr && !u.th) = false := by
  rw [List.any_eq_false]; intro u hu; simp [hp h0 u hu]
 simp [h0, e2]
 }
 · have : 0 < nPr s := by omega
   simp [h0, this]
 }
 {
 rw [hd]; have e : (s.units.any fun u => u.pr && (!u.th || (1:Int) == 0)) = s.units.any fun u => u.pr && !u.th := (by congr 1; funext u; simp); rw [e]
 by_cases h0 : nOpen s = 0
 · simp [h0]
 · have : 0 < nOpen s := by omega
   simp [h0, this]
 }
 {
 rw [hd]; have e : (s.units.any fun u => u.pr && (!u.th || (2:Int) == 0)) = s.units.any fun u => u.pr && !u.th := (by congr 1; funext u; simp); rw [e]
 by_cases h0 : nOpen s = 0
 · simp [h0]
 · have : 0 < nOpen s := by omega
   simp [h0, this]
 }
/-- What concerns a tower: all kinds but 7 to 11. -/
def ofUnit (k : Int) : Bool := !(decide (7 ≤ k) && decide (k ≤ 11))
/-- An action is allowed. -/
def allowD (p : PressD) (s : StD) (k : Int) (i : Nat) : Bool :=
 let u := s.units.getD i default
 if k = 1 then s.drive == 0 && !u.op
 else if k = 2 then u.op
 else if k = 3 then s.drive == 1 && !u.th
 else if k = 4 then s.drive == 1 && !u.th && !p.jam.getD i false
 else if k = 5 then s.drive != 0 && u.th && u.cl && !u.pr
 else if k = 6 then u.pr && (s.drive != 2 || decide (1 < nPr s))
 else if k = 7 then s.drive != 1 && !opened s
 else if k = 8 then s.drive == 1 && anyPr s
 else if k = 9 then s.drive != 0 && !anyPr s
 else if k = 10 then s.drive == 0 && !s.folder
 else if k = 11 then s.folder
 else s.drive == 0 && u.op && u.th
/-- What an action does to its tower. -/
def unitD (k : Int) (u : UnitD) : UnitD :=
 if k = 1 then { u with op := true } else if k = 2 then { u with op := false } else if k = 3 then { u with th := true } else if k = 4 then { u with cl := true, ink := 0 }
 else if k = 5 then { u with pr := true } else if k = 6 then { u with pr := false } else if k = 12 then { u with th := false } else u
/-- What an action does. -/
def doD (s : StD) (k : Int) (i : Nat) : StD :=
 if k = 7 then { s with drive := 1, fresh := 0 } else if k = 8 then { s with drive := 2, fresh := 0 } else if k = 9 then { s with drive := 0, fresh := 0 }
 else if k = 10 then { s with folder := true } else if k = 11 then { s with folder := false }
 else { s with units := s.units.set i (unitD k (s.units.getD i default)) }
/-- The error of an action. -/
def actErr (p : PressD) (s : StD) (k x : Int) : Int :=
 if k < 1 ∨ 12 < k then 150 else if x < 0 ∨ (s.units.length : Int) ≤ x ∨ (ofUnit k = false ∧ x ≠ 0) then 1 else if allowD p s k x.toNat then 0 else 80
def actD (p : PressD) (s : StD) (k x : Int) : StD := if actErr p s k x = 0 then doD s k x.toNat else s
/-- How much the dirtiest pressed tower is inked (0 if there is none). -/
def inkM (us : List UnitD) : Int := us.foldl (fun m u => if u.pr then max m u.ink else m) 0
theorem inkM_ge (us : List UnitD) : ∀ (a : Int), a ≤ us.foldl (fun m u => if u.pr then max m u.ink else m) a ∧ ∀ u ∈ us, u.pr = true → u.ink ≤ us.foldl (fun m u => if u.pr then max m u.ink else m) a := by
 induction us with
 | nil => intro a; exact ⟨Int.le_refl _, fun u hu => by cases hu⟩
 | cons x us ih =>
   intro a; rw [List.foldl_cons]; obtain ⟨b, hb⟩ : ∃ b, b = if x.pr then max a x.ink else a := ⟨_, rfl⟩; rw [← hb]; obtain ⟨h1, h2⟩ := ih b; have hab : a ≤ b := (by rw [hb]; split <;> omega); refine ⟨by omega, fun u hu hp => ?_⟩
   rcases List.mem_cons.1 hu with rfl | hu
   · rw [if_pos hp] at hb; omega
   · exact h2 u hu hp
theorem inkM_at (us : List UnitD) : ∀ (a : Int), us.foldl (fun m u => if u.pr then max m u.ink else m) a = a ∨ ∃ u ∈ us, u.pr = true ∧ us.foldl (fun m u => if u.pr then max m u.ink else m) a = u.ink := by
 induction us with
 | nil => intro a; exact .inl rfl
 | cons x us ih =>
   intro a; rw [List.foldl_cons]
   rcases ih (if x.pr then max a x.ink else a) with h | ⟨u, hu, hp, h⟩
   {
   rw [h]
   by_cases hp : x.pr = true
   {
   rw [if_pos hp]
   by_cases hm : x.ink ≤ a
   · exact .inl (by omega)
   · exact .inr ⟨x, by simp, hp, by omega⟩
   }
   · rw [if_neg hp]; exact .inl rfl
   }
   · exact .inr ⟨u, by simp [hu], hp, h⟩
theorem inkM_any (us : List UnitD) (hpos : ∀ u ∈ us, 0 ≤ u.ink) (hany : us.any (·.pr) = true) (D n : Int) : (us.any fun u => u.pr && decide (D ≤ u.ink + n)) = decide (D ≤ inkM us + n) := by
 rw [Bool.eq_iff_iff, List.any_eq_true, decide_eq_true_eq]
 constructor
 { rintro ⟨u, hu, h⟩; simp only [Bool.and_eq_true, decide_eq_true_eq] at h; have := (inkM_ge us 0).2 u hu h.1; unfold inkM; omega }
 {
 intro h
 rcases inkM_at us 0 with h0 | ⟨u, hu, hp, h0⟩
 { obtain ⟨u, hu, hp⟩ := List.any_eq_true.1 hany; refine ⟨u, hu, ?_⟩; have := hpos u hu; unfold inkM at h; simp only [Bool.and_eq_true, decide_eq_true_eq]; exact ⟨hp, by omega⟩ }
 { refine ⟨u, hu, ?_⟩; unfold inkM at h; simp only [Bool.and_eq_true, decide_eq_true_eq]; exact ⟨hp, by omega⟩ }
 }
/-- The tower after n copies. -/
def inked (n : Int) (u : UnitD) : UnitD := if u.pr then { u with ink := u.ink + n } else u
/-- The error of printing. -/
def prErr (p : PressD) (s : StD) (n : Int) : Int :=
 if stErr p s ≠ 0 then stErr p s else if n < 0 ∨ 1000000 - max s.fresh (inkM s.units) < n then 6 else if s.drive ≠ 2 then 80 else 0
/-- The state after printing. -/
def prD (s : StD) (n : Int) : StD := { s with fresh := s.fresh + n, units := s.units.map (inked n) }
/-- The waste of printing. -/
def prW (p : PressD) (s : StD) (n : Int) : List SpanD := spansN p.warm s.fresh p.dirt (inkM s.units) n
/-- The truths of the towers. -/
def unitsB (us : List UnitD) : List Bool := us.flatMap fun u => [u.op, u.th, u.cl, u.pr]
/-- The situation of a state: fifteen truths. -/
def sitD (s : StD) : List Bool := ([s.drive == 1, s.drive == 2, s.folder] ++ unitsB s.units ++ List.replicate 12 false).take 15
theorem sitD_len (s : StD) : (sitD s).length = 15 := by
 unfold sitD; rw [List.length_take]; simp
/-- A step: the state, the action that led there, and from which step. -/
structure StepD where
 at_ : StD
 kind : Int
 unit : Int
 from_ : Int
/-- All actions of a press of n towers, in order. -/
def kindsD (n : Nat) : List (Int × Nat) := (List.range 12).flatMap fun k => (List.range n).map fun u => (((k + 1 : Nat) : Int), u)
/-- A step more, if its situation is new. -/
def addStep (p : PressD) (i : Nat) (s : StD) (l : List StepD) (a : Int × Nat) : List StepD :=
 if actErr p s a.1 a.2 = 0 then
  let nx := actD p s a.1 a.2
  if l.any (fun t => sitD t.at_ == sitD nx) then l else l ++ [⟨nx, a.1, a.2, i⟩]
 else l
def expandD (p : PressD) (i : Nat) (s : StD) (l : List StepD) : List StepD := (kindsD s.units.length).foldl (addStep p i s) l
/-- The steps behind i rounds more; where the one that was looked for is found. -/
def searchD (p : PressD) (done : StD → Bool) : Nat → Nat → List StepD → List StepD × Int
 | 0, _, l => (l, -1)
 | fuel + 1, i, l =>
   match l[i]? with
   | none => (l, -1)
   | some t => if done t.at_ then (l, i) else searchD p done fuel (i + 1) (expandD p i t.at_ l)
/-- No situation stands twice. -/
def Apart (l : List StepD) : Prop := (l.map fun t => sitD t.at_).Nodup
theorem addStep_apart {p : PressD} {i : Nat} {s : StD} {l : List StepD} {a : Int × Nat} (h : Apart l) : Apart (addStep p i s l a) := by
 unfold addStep
 split
 {
 dsimp only
 split
 · exact h
 { rename_i hn; unfold Apart; rw [List.map_append, List.nodup_append]; refine ⟨h, by simp, fun x hx y hy e => hn ?_⟩; obtain ⟨t, ht, rfl⟩ := List.mem_map.1 hx; simp only [List.map_cons, List.map_nil, List.mem_singleton] at hy; rw [List.any_eq_true]; exact ⟨t, ht, by rw [e, hy]; simp⟩ }
 }
 · exact h
theorem foldl_apart {p : PressD} {i : Nat} {s : StD} : ∀ (ks : List (Int × Nat)) {l : List StepD}, Apart l → Apart (ks.foldl (addStep p i s) l) := by
 intro ks
 induction ks with
 | nil => intro l h; exact h
 | cons k ks ih => intro l h; exact ih (addStep_apart h)
/-- The number that fifteen truths write. -/
def numB : List Bool → Nat
 | [] => 0
 | b :: l => (if b then 1 else 0) + 2 * numB l
theorem numB_lt : ∀ (l : List Bool), numB l < 2 ^ l.length
 | [] => by simp [numB]
 | b :: l => by
   have := numB_lt l; unfold numB; rw [List.length_cons, Nat.pow_succ]
   split <;> omega
theorem numB_inj : ∀ (l l' : List Bool), l.length = l'.length → numB l = numB l' → l = l'
 | [], [], _, _ => rfl
 | [], b :: l, h, _ => by simp at h
 | b :: l, [], h, _ => by simp at h
 | b :: l, b' :: l', h, e => by
   unfold numB at e; have h1 : l.length = l'.length := (by simpa using h); have h2 : numB l = numB l' := (by split at e <;> split at e <;> omega); rw [numB_inj l l' h1 h2]
   have h3 : b = b' := by
    rw [h2] at e
    cases b <;> cases b' <;> simp at e <;> first | rfl | omega
   rw [h3]
theorem nodup_lt : ∀ (n : Nat) (l : List Nat), l.Nodup → (∀ x ∈ l, x < n) → l.length ≤ n := by
 intro n
 induction n with
 | zero => intro l _ h; cases l with
   | nil => exact Nat.le_refl _
   | cons x l => have := h x (by simp); omega
 | succ n ih =>
   intro l hn h
   have h1 : (l.filter fun x => x != n).length ≤ n := ih _ (hn.filter _) fun x hx => by
    rw [List.mem_filter] at hx; have := h x hx.1; have h2 : x ≠ n := (by simpa using hx.2); omega
   have h3 : l.length ≤ (l.filter fun x => x != n).length + 1 := by
    clear ih h h1
    induction l with
    | nil => simp
    | cons x l ih2 =>
      rw [List.nodup_cons] at hn
      by_cases e : x = n
      {
      subst e
      have : (l.filter fun y => y != x) = l := List.filter_eq_self.2 fun y hy => by
       have : y ≠ x := fun e => hn.1 (e ▸ hy)
       simpa using this
      rw [List.filter_cons]; simp [this]
      }
      { have := ih2 hn.2; rw [List.filter_cons]; simp [e]; exact this }
   omega
theorem Apart.len {l : List StepD} (h : Apart l) : l.length ≤ 32768 := by
 have h1 : ((l.map fun t => sitD t.at_).map numB).Nodup := by
  unfold Apart at h; rw [List.nodup_iff_pairwise_ne] at h ⊢; refine List.Pairwise.map numB (R := fun a b => a ≠ b ∧ a.length = 15 ∧ b.length = 15) (fun a b hab e => hab.1 (numB_inj a b (hab.2.1.trans hab.2.2.symm) e)) ?_; refine List.Pairwise.imp_of_mem (fun {a b} ha hb hab => ⟨hab, ?_, ?_⟩) h
  · obtain ⟨t, _, rfl⟩ := List.mem_map.1 ha; exact sitD_len _
  · obtain ⟨t, _, rfl⟩ := List.mem_map.1 hb; exact sitD_len _
 have h2 := nodup_lt 32768 _ h1 fun x hx => by
  obtain ⟨y, hy, rfl⟩ := List.mem_map.1 hx; obtain ⟨t, _, rfl⟩ := List.mem_map.1 hy; have := numB_lt (sitD t.at_); rw [sitD_len] at this; exact this
 simpa using h2
/-- A list of truths as a number, the first one the least. -/
def bitsN : List Bool → Nat
 | [] => 0
 | b :: l => b.toNat + 2 * bitsN l
theorem bitsN_append : ∀ l m : List Bool, bitsN (l ++ m) = bitsN l + 2 ^ l.length * bitsN m
 | [], m => by simp [bitsN]
 | b :: l, m => by
   rw [List.cons_append, bitsN, bitsN, bitsN_append l m, List.length_cons, Nat.pow_succ, Nat.mul_add, Nat.add_assoc]
   congr 2
   rw [← Nat.mul_assoc, Nat.mul_comm 2]
theorem bitsN_false (n : Nat) : bitsN (List.replicate n false) = 0 := by
 induction n with
 | zero => rfl
 | succ n ih => rw [List.replicate_succ, bitsN, ih]; rfl
theorem bitsN_lt : ∀ l : List Bool, bitsN l < 2 ^ l.length
 | [] => by simp [bitsN]
 | b :: l => by
   have := bitsN_lt l; rw [bitsN, List.length_cons, Nat.pow_succ]
   cases b <;> simp <;> omega
theorem bitsN_drop (l : List Bool) (i : Nat) (h : i < l.length) : bitsN (l.drop i) = l[i].toNat + 2 * bitsN (l.drop (i + 1)) := by
 rw [List.drop_eq_getElem_cons h]; rfl
theorem bitsN_take (l : List Bool) (i : Nat) (h : i < l.length) : bitsN (l.take (i + 1)) = bitsN (l.take i) + 2 ^ i * l[i].toNat := by
 rw [List.take_succ_eq_append_getElem h, bitsN_append, List.length_take, Nat.min_eq_left (by omega)]; simp [bitsN]
/-- The code of a state. -/
def codeD (s : StD) : Int := s.drive + 3 * (bitsN (s.folder :: unitsB s.units) : Nat)
/-- The bits of k towers. -/
def cN (us : List UnitD) (k : Nat) : Nat := bitsN (unitsB (us.take k))
theorem cN_end (us : List UnitD) : cN us us.length = bitsN (unitsB us) := by unfold cN; rw [List.take_length]
theorem unitsB_four (us : List UnitD) : (unitsB us).length = 4 * us.length := by
 unfold unitsB
 induction us with
 | nil => rfl
 | cons u us ih => rw [List.flatMap_cons, List.length_append, ih, List.length_cons]; simp; omega
theorem cN_succ (us : List UnitD) (k : Nat) (h : k < us.length) : cN us (k + 1) = cN us k + 16 ^ k * ((us[k].op).toNat + 2 * (us[k].th).toNat + 4 * (us[k].cl).toNat + 8 * (us[k].pr).toNat) := by
 unfold cN; rw [List.take_succ_eq_append_getElem h]
 have h1 : unitsB (us.take k ++ [us[k]]) = unitsB (us.take k) ++ [us[k].op, us[k].th, us[k].cl, us[k].pr] := by
  unfold unitsB; rw [List.flatMap_append]; simp
 have h2 : 2 ^ (unitsB (us.take k)).length = 16 ^ k := by
  rw [unitsB_four, List.length_take, Nat.min_eq_left (by omega), Nat.pow_mul]
 rw [h1, bitsN_append, h2]
 congr 2
 simp only [bitsN]; omega
theorem cN_lt (us : List UnitD) (k : Nat) (h : k ≤ us.length) : cN us k < 16 ^ k := by
 unfold cN; have h1 := bitsN_lt (unitsB (us.take k)); rw [unitsB_four, List.length_take, Nat.min_eq_left h, Nat.pow_mul] at h1; exact h1
theorem codeD_eq (s : StD) : codeD s = s.drive + 3 * (2 * (cN s.units s.units.length : Nat) + (s.folder.toNat : Nat)) := by
 unfold codeD; rw [cN_end, bitsN]; omega
/-- Each step comes from an earlier one. -/
def Back (l : List StepD) : Prop := ∀ j (h : j < l.length), -1 ≤ l[j].from_ ∧ l[j].from_ < j
theorem back_one (s : StD) (k u : Int) : Back [⟨s, k, u, -1⟩] := by
 intro j hj; obtain rfl : j = 0 := (by simpa using hj); exact ⟨Int.le_refl _, by simp⟩
theorem addStep_back {p : PressD} {i : Nat} {s : StD} {l : List StepD} {a : Int × Nat} (h : Back l) (hi : i < l.length) : Back (addStep p i s l a) := by
 unfold addStep
 split
 {
 dsimp only
 split
 · exact h
 {
 intro j hj; rw [List.length_append, List.length_singleton] at hj
 by_cases hjl : j < l.length
 · rw [List.getElem_append_left hjl]; exact h j hjl
 { obtain rfl : j = l.length := (by omega); rw [List.getElem_append_right (Nat.le_refl _)]; simp only [Nat.sub_self, List.getElem_cons_zero]; omega }
 }
 }
 · exact h
theorem addStep_le' (p : PressD) (i : Nat) (s : StD) (l : List StepD) (a : Int × Nat) : l.length ≤ (addStep p i s l a).length := by
 unfold addStep
 split
 {
 dsimp only
 split
 · exact Nat.le_refl _
 · rw [List.length_append]; omega
 }
 · exact Nat.le_refl _
theorem foldl_back {p : PressD} {i : Nat} {s : StD} : ∀ (ks : List (Int × Nat)) {l : List StepD}, Back l → i < l.length → Back (ks.foldl (addStep p i s) l) ∧ i < (ks.foldl (addStep p i s) l).length := by
 intro ks
 induction ks with
 | nil => intro l h hi; exact ⟨h, hi⟩
 | cons k ks ih => intro l h hi; exact ih (addStep_back h hi) (Nat.lt_of_lt_of_le hi (addStep_le' _ _ _ _ _))
/-- What a search ends with. -/
structure SearchD (p : PressD) (r : List StepD × Int) : Prop where
 back : Back r.1
 apart : Apart r.1
 found : r.2 = -1 ∨ 0 ≤ r.2 ∧ r.2.toNat < r.1.length
theorem searchD_ok (p : PressD) (done : StD → Bool) : ∀ (f i : Nat) (l : List StepD), Back l → Apart l → SearchD p (searchD p done f i l)
 | 0, i, l, hb, ha => ⟨hb, ha, .inl rfl⟩
 | f + 1, i, l, hb, ha => by
   unfold searchD
   by_cases hi : i < l.length
   {
   rw [List.getElem?_eq_getElem hi]; dsimp only
   split
   · exact ⟨hb, ha, .inr ⟨by simp, by simpa using hi⟩⟩
   · exact searchD_ok p done f (i + 1) _ (foldl_back _ hb hi).1 (foldl_apart _ ha)
   }
   · rw [List.getElem?_eq_none (by omega)]
     exact ⟨hb, ha, .inl rfl⟩
/-- The actions from a step back to the first one. -/
def backD (l : List StepD) : Nat → Int → List (Int × Int)
 | 0, _ => []
 | f + 1, i => match l[i.toNat]? with | none => [] | some t => if t.from_ < 0 then [] else (t.kind, t.unit) :: backD l f t.from_
theorem backD_fuel {l : List StepD} (h : Back l) : ∀ (f g : Nat) (i : Int), 0 ≤ i → i.toNat < f → i.toNat < g → backD l f i = backD l g i
 | 0, _, _, _, h1, _ => by omega
 | _ + 1, 0, _, _, _, h2 => by omega
 | f + 1, g + 1, i, h0, h1, h2 => by
   unfold backD
   by_cases hi : i.toNat < l.length
   {
   rw [List.getElem?_eq_getElem hi]; dsimp only
   split
   rfl
   · have := h i.toNat hi
     rw [backD_fuel h f g _ (by omega) (by omega) (by omega)]
   }
   · rw [List.getElem?_eq_none (by omega)]
theorem backD_len {l : List StepD} (h : Back l) : ∀ (f : Nat) (i : Int), 0 ≤ i → (backD l f i).length ≤ i.toNat
 | 0, _, _ => by simp [backD]
 | f + 1, i, h0 => by
   unfold backD
   by_cases hi : i.toNat < l.length
   {
   rw [List.getElem?_eq_getElem hi]; dsimp only
   split
   · simp
   { have := h i.toNat hi; have := backD_len h f l[i.toNat].from_ (by omega); rw [List.length_cons]; omega }
   }
   · rw [List.getElem?_eq_none (by omega)]; simp
theorem backD_stop {l : List StepD} {f : Nat} {i : Int} (hi : i.toNat < l.length) (h : l[i.toNat].from_ < 0) : backD l (f + 1) i = [] := by
 unfold backD; rw [List.getElem?_eq_getElem hi]; dsimp only; rw [if_pos h]
theorem backD_step {l : List StepD} {f : Nat} {i : Int} (hi : i.toNat < l.length) (h : ¬ l[i.toNat].from_ < 0) : backD l (f + 1) i = (l[i.toNat].kind, l[i.toNat].unit) :: backD l f l[i.toNat].from_ := by
 conv => lhs; unfold backD
 rw [List.getElem?_eq_getElem hi]; dsimp only; rw [if_neg h]
/-- A goal. -/
structure GoalD where
 drive : Int
 pressed : List Bool
def aimedD (s : StD) (g : GoalD) : Bool := (g.pressed.length == s.units.length) && (decide (0 ≤ g.drive) && decide (g.drive ≤ 2))
def fulD (g : GoalD) (s : StD) : Bool := (s.drive == g.drive) && (s.units.map (·.pr) == g.pressed)
/-- The error of a press, a state and a goal. -/
def goErr (p : PressD) (s : StD) (g : GoalD) : Int := if stErr p s ≠ 0 then stErr p s else if aimedD s g then 0 else 1
/-- What the search for a goal ends with. -/
def seekD (p : PressD) (s : StD) (g : GoalD) : List StepD × Int := searchD p (fulD g) 40000 0 [⟨s, 0, 0, -1⟩]
/-- The error of the search for a program, and the program. -/
def fiErr (p : PressD) (s : StD) (g : GoalD) : Int := if goErr p s g ≠ 0 then goErr p s g else if (seekD p s g).2 < 0 then 4 else 0
def findD (p : PressD) (s : StD) (g : GoalD) : List (Int × Int) := (backD (seekD p s g).1 40000 (seekD p s g).2).reverse
theorem seek_ok (p : PressD) (s : StD) (g : GoalD) : SearchD p (seekD p s g) :=
 searchD_ok p _ _ _ _ (back_one s 0 0) (by unfold Apart; simp)
end Go.Proofs.YtojobdffnnibaaaGreat