/- A press, its states and its actions, in plain words. -/
import Derived.Test.YtojobdffnnibaaaPlainPr
namespace Go.Proofs.Ytojobdffnnibaaa
set_option linter.unusedVariables false

structure UnitD where
  op : Bool
  th : Bool
  cl : Bool
  pr : Bool
  ink : Int
structure StD where
  drive : Int
  folder : Bool
  units : List UnitD
  fresh : Int
structure PressD where
  jam : List Bool
  warm : Int
  tail : Int
  dirt : Int
instance : Inhabited UnitD := ⟨⟨false, false, false, false, 0⟩⟩

def okN (n : Int) : Bool := decide (0 ≤ n) && decide (n ≤ 10000)
/-- The error of a press. -/
def pErr (p : PressD) : Int := if p.jam.length < 1 ∨ 3 < p.jam.length then 2 else if okN p.warm && okN p.tail && okN p.dirt then 0 else 81
def opened (s : StD) : Bool := s.folder || s.units.any (·.op)
def anyPr (s : StD) : Bool := s.units.any (·.pr)
def okInk (n : Int) : Bool := decide (0 ≤ n) && decide (n ≤ 1000000)
def shapedD (p : PressD) (s : StD) : Bool := (s.units.length == p.jam.length) && (decide (0 ≤ s.drive) && decide (s.drive ≤ 2)) && okInk s.fresh && !(s.drive != 2 && s.fresh != 0) && s.units.all fun u => okInk u.ink
/-- A state is safe. -/
def safeD (s : StD) : Bool := !(s.drive != 0 && opened s) && !(s.units.any fun u => u.pr && (!u.th || s.drive == 0)) && (s.drive != 2 || anyPr s)
/-- The error of a press and a state. -/
def stErr (p : PressD) (s : StD) : Int := if pErr p ≠ 0 then pErr p else if shapedD p s && safeD s then 0 else 9
/-- In the reference's words. -/
def nOpen (s : StD) : Nat := (if s.folder then 1 else 0) + (s.units.filter (·.op)).length
def nPr (s : StD) : Nat := (s.units.filter (·.pr)).length
def safeR (s : StD) : Bool := !(s.units.any fun u => u.pr && !u.th) && (if s.drive = 0 then nPr s == 0 else if s.drive = 1 then nOpen s == 0 else nOpen s == 0 && decide (0 < nPr s))

theorem any_filter {α : Type} (f : α → Bool) (l : List α) : l.any f = decide (0 < (l.filter f).length) := by
  rw [Bool.eq_iff_iff, List.any_eq_true, decide_eq_true_eq, List.length_pos_iff_exists_mem]
  simp [List.mem_filter]
theorem opened_n (s : StD) : opened s = decide (0 < nOpen s) := by
  unfold opened nOpen
  rw [any_filter]
  cases s.folder
  · simp
  · simp; omega
theorem anyPr_n (s : StD) : anyPr s = decide (0 < nPr s) := any_filter _ _
theorem safe_eq (s : StD) (h : 0 ≤ s.drive ∧ s.drive ≤ 2) : safeR s = safeD s := by
  have hp : nPr s = 0 → ∀ u ∈ s.units, u.pr = false := fun h0 u hu => by
    have h1 : anyPr s = false := by rw [anyPr_n, h0]; rfl
    unfold anyPr at h1
    rw [List.any_eq_false] at h1
    simpa using h1 u hu
  have hd : s.drive = 0 ∨ s.drive = 1 ∨ s.drive = 2 := by omega
  unfold safeR safeD
  rw [opened_n, anyPr_n]
  rcases hd with hd | hd | hd
  · rw [hd]
    have e : (s.units.any fun u => u.pr && (!u.th || (0:Int) == 0)) = decide (0 < nPr s) := by
      rw [← anyPr_n]; unfold anyPr; congr 1; funext u; simp
    rw [e]
    by_cases h0 : nPr s = 0
    · have e2 : (s.units.any fun u => u.pr && !u.th) = false := by
        rw [List.any_eq_false]; intro u hu; simp [hp h0 u hu]
      simp [h0, e2]
    · have : 0 < nPr s := by omega
      simp [h0, this]
  · rw [hd]
    have e : (s.units.any fun u => u.pr && (!u.th || (1:Int) == 0)) = s.units.any fun u => u.pr && !u.th := by congr 1; funext u; simp
    rw [e]
    by_cases h0 : nOpen s = 0
    · simp [h0]
    · have : 0 < nOpen s := by omega
      simp [h0, this]
  · rw [hd]
    have e : (s.units.any fun u => u.pr && (!u.th || (2:Int) == 0)) = s.units.any fun u => u.pr && !u.th := by congr 1; funext u; simp
    rw [e]
    by_cases h0 : nOpen s = 0
    · simp [h0]
    · have : 0 < nOpen s := by omega
      simp [h0, this]

/-- What concerns a tower: all kinds but 7 to 11. -/
def ofUnit (k : Int) : Bool := !(decide (7 ≤ k) && decide (k ≤ 11))
/-- An action is allowed. -/
def allowD (p : PressD) (s : StD) (k : Int) (i : Nat) : Bool :=
  let u := s.units.getD i default
  if k = 1 then s.drive == 0 && !u.op
  else if k = 2 then u.op
  else if k = 3 then s.drive == 1 && !u.th
  else if k = 4 then s.drive == 1 && !u.th && !p.jam.getD i false
  else if k = 5 then s.drive != 0 && u.th && u.cl && !u.pr
  else if k = 6 then u.pr && (s.drive != 2 || decide (1 < nPr s))
  else if k = 7 then s.drive != 1 && !opened s
  else if k = 8 then s.drive == 1 && anyPr s
  else if k = 9 then s.drive != 0 && !anyPr s
  else if k = 10 then s.drive == 0 && !s.folder
  else if k = 11 then s.folder
  else s.drive == 0 && u.op && u.th
/-- What an action does to its tower. -/
def unitD (k : Int) (u : UnitD) : UnitD :=
  if k = 1 then { u with op := true } else if k = 2 then { u with op := false } else if k = 3 then { u with th := true } else if k = 4 then { u with cl := true, ink := 0 }
  else if k = 5 then { u with pr := true } else if k = 6 then { u with pr := false } else if k = 12 then { u with th := false } else u
/-- What an action does. -/
def doD (s : StD) (k : Int) (i : Nat) : StD :=
  if k = 7 then { s with drive := 1, fresh := 0 } else if k = 8 then { s with drive := 2, fresh := 0 } else if k = 9 then { s with drive := 0, fresh := 0 }
  else if k = 10 then { s with folder := true } else if k = 11 then { s with folder := false }
  else { s with units := s.units.set i (unitD k (s.units.getD i default)) }
/-- The error of an action. -/
def actErr (p : PressD) (s : StD) (k x : Int) : Int :=
  if k < 1 ∨ 12 < k then 150 else if x < 0 ∨ (s.units.length : Int) ≤ x ∨ (ofUnit k = false ∧ x ≠ 0) then 1 else if allowD p s k x.toNat then 0 else 80
def actD (p : PressD) (s : StD) (k x : Int) : StD := if actErr p s k x = 0 then doD s k x.toNat else s
end Go.Proofs.Ytojobdffnnibaaa
