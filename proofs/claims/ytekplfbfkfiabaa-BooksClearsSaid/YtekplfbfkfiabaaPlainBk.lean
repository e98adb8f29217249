/- Accounts, entries, signs and ledgers in plain words: no program in sight. -/
import Derived.Test.YtekplfbfkfiabaaBase
import Derived.Lib.EndianBits
namespace Go.Proofs.Ytekplfbfkfiabaa
set_option linter.unusedVariables false

structure AccD where
  good : Int
  stock : Bool
structure EntD where
  frm : Int
  to : Int
  amt : Int
  day : Int
structure SigD where
  e : EntD
  sign : Int
structure LedD where
  key : Int
  acc : List AccD
  ents : List SigD
  closed : Int
instance : Inhabited AccD := ⟨⟨0, false⟩⟩
instance : Inhabited EntD := ⟨⟨0, 0, 0, 0⟩⟩
instance : Inhabited SigD := ⟨⟨default, 0⟩⟩

def nIn (n lo hi : Int) : Bool := decide (lo ≤ n ∧ n ≤ hi)
theorem nIn_iff (n lo hi : Int) : nIn n lo hi = true ↔ lo ≤ n ∧ n ≤ hi := by simp [nIn]

/-- The place of the first element of which p holds; -1: none. -/
def fIdx {α : Type} (p : α → Bool) : List α → Nat → Int
  | [], _ => -1
  | x :: xs, k => if p x then (k : Int) else fIdx p xs (k + 1)
theorem fIdx_range {α : Type} (p : α → Bool) (xs : List α) : ∀ k : Nat, fIdx p xs k = -1 ∨ ((k : Int) ≤ fIdx p xs k ∧ fIdx p xs k < k + xs.length) := by
  induction xs with
  | nil => intro k; exact .inl rfl
  | cons x xs ih =>
    intro k
    unfold fIdx
    by_cases h : p x = true
    · rw [if_pos h]; simp only [List.length_cons]; right; omega
    · rw [if_neg h]
      rcases ih (k + 1) with h1 | h1
      · exact .inl h1
      · simp only [List.length_cons]; right; omega
theorem fIdx_drop {α : Type} (p : α → Bool) (xs : List α) (k : Nat) (hk : k < xs.length) : fIdx p (xs.drop k) k = if p xs[k] then (k : Int) else fIdx p (xs.drop (k + 1)) (k + 1) := by
  rw [List.drop_eq_getElem_cons hk]; rfl
theorem fIdx_end {α : Type} (p : α → Bool) (xs : List α) (k : Nat) (hk : xs.length ≤ k) : fIdx p (xs.drop k) k = -1 := by
  rw [List.drop_eq_nil_of_le hk]; rfl

def lossP (g : Int) (x : AccD) : Bool := decide (x.good = g) && !x.stock
def lossI (l : List AccD) (g : Int) : Int := fIdx (lossP g) l 0
def badP (l : List AccD) (x : AccD) : Bool := !nIn x.good 1 4 || (x.stock && decide (lossI l x.good < 0))
def checkE (l : List AccD) : Int := if 1 ≤ l.length ∧ l.length ≤ 40 then (if l.any (badP l) then 140 else 0) else 2
theorem lossI_range (l : List AccD) (g : Int) : -1 ≤ lossI l g ∧ lossI l g < l.length := by
  rcases fIdx_range (lossP g) l 0 with h | h <;> unfold lossI <;> omega

def LedD.n (d : LedD) : Nat := d.acc.length
def LedD.at' (d : LedD) (i : Int) : AccD := d.acc.getD i.toNat default
def LedD.last (d : LedD) : Int := match d.ents.getLast? with | some x => x.e.day | none => -1
def mv (i : Int) (e : EntD) : Int := (if e.to = i then e.amt else 0) - (if e.frm = i then e.amt else 0)
/-- The balance after all entries. -/
def balA (i : Int) : List SigD → Int
  | [] => 0
  | x :: xs => mv i x.e + balA i xs
/-- The balance after all entries up to a day. -/
def balU (i day : Int) : List SigD → Int
  | [] => 0
  | x :: xs => (if x.e.day ≤ day then mv i x.e else 0) + balU i day xs
theorem balA_snoc (i : Int) (xs : List SigD) (x : SigD) : balA i (xs ++ [x]) = balA i xs + mv i x.e := by
  induction xs with
  | nil => simp [balA]
  | cons y ys ih => simp only [List.cons_append, balA, ih]; omega
theorem balU_snoc (i day : Int) (xs : List SigD) (x : SigD) : balU i day (xs ++ [x]) = balU i day xs + (if x.e.day ≤ day then mv i x.e else 0) := by
  induction xs with
  | nil => simp [balU]
  | cons y ys ih => simp only [List.cons_append, balU, ih]; omega
theorem balU_take (i day : Int) (xs : List SigD) (k : Nat) (hk : k < xs.length) : balU i day (xs.take (k + 1)) = balU i day (xs.take k) + (if xs[k].e.day ≤ day then mv i xs[k].e else 0) := by
  rw [List.take_succ_eq_append_getElem hk, balU_snoc]
theorem mv_bound (i : Int) (e : EntD) (h : 0 ≤ e.amt) : -e.amt ≤ mv i e ∧ mv i e ≤ e.amt := by
  unfold mv; constructor <;> split <;> split <;> omega
/-- The amounts are right. -/
def AmtOk (xs : List SigD) : Prop := ∀ x ∈ xs, 1 ≤ x.e.amt ∧ x.e.amt ≤ 1000000000000
theorem balU_bound (i day : Int) (xs : List SigD) (h : AmtOk xs) : -(xs.length * 1000000000000 : Int) ≤ balU i day xs ∧ balU i day xs ≤ (xs.length * 1000000000000 : Int) := by
  induction xs with
  | nil => simp [balU]
  | cons y ys ih =>
    have h1 := ih (fun x hx => h x (by simp [hx]))
    have h2 := h y (by simp)
    have h3 := mv_bound i y.e (by omega)
    simp only [balU, List.length_cons]
    split <;> constructor <;> push_cast <;> omega
theorem balA_bound (i : Int) (xs : List SigD) (h : AmtOk xs) : -(xs.length * 1000000000000 : Int) ≤ balA i xs ∧ balA i xs ≤ (xs.length * 1000000000000 : Int) := by
  induction xs with
  | nil => simp [balA]
  | cons y ys ih =>
    have h1 := ih (fun x hx => h x (by simp [hx]))
    have h2 := h y (by simp)
    have h3 := mv_bound i y.e (by omega)
    simp only [balA, List.length_cons]
    constructor <;> push_cast <;> omega
theorem balU_all (i day : Int) (xs : List SigD) (h : ∀ x ∈ xs, x.e.day ≤ day) : balU i day xs = balA i xs := by
  induction xs with
  | nil => rfl
  | cons y ys ih => simp only [balU, balA]; rw [if_pos (h y (by simp)), ih (fun x hx => h x (by simp [hx]))]
/-- The days do not go back. -/
def DaysUp : List SigD → Prop
  | [] => True
  | x :: xs => (∀ y ∈ xs, x.e.day ≤ y.e.day) ∧ DaysUp xs
theorem balU_late (i day : Int) (xs : List SigD) (h : ∀ x ∈ xs, day < x.e.day) : balU i day xs = 0 := by
  induction xs with
  | nil => rfl
  | cons y ys ih => simp only [balU]; rw [if_neg (by have := h y (by simp); omega), ih (fun x hx => h x (by simp [hx]))]; rfl
theorem DaysUp.drop {xs : List SigD} (h : DaysUp xs) (k : Nat) (hk : k < xs.length) : ∀ y ∈ xs.drop k, xs[k].e.day ≤ y.e.day := by
  induction xs generalizing k with
  | nil => simp at hk
  | cons x xs ih =>
    obtain ⟨h1, h2⟩ := h
    cases k with
    | zero =>
      intro y hy
      simp at hy
      rcases hy with rfl | hy
      · simp
      · exact h1 y hy
    | succ k => exact ih h2 k (by simpa using hk)
theorem DaysUp.snoc {xs : List SigD} {x : SigD} (h : DaysUp xs) (hl : ∀ y ∈ xs, y.e.day ≤ x.e.day) : DaysUp (xs ++ [x]) := by
  induction xs with
  | nil => exact ⟨by simp, trivial⟩
  | cons y ys ih =>
    obtain ⟨h1, h2⟩ := h
    refine ⟨fun z hz => ?_, ih h2 (fun z hz => hl z (by simp [hz]))⟩
    rcases List.mem_append.1 hz with h3 | h3
    · exact h1 z h3
    · rw [List.mem_singleton.1 h3]; exact hl y (by simp)
theorem DaysUp.le_last {xs : List SigD} (h : DaysUp xs) {z : SigD} (hz : xs.getLast? = some z) : ∀ y ∈ xs, y.e.day ≤ z.e.day := by
  induction xs with
  | nil => simp at hz
  | cons x xs ih =>
    obtain ⟨h1, h2⟩ := h
    cases xs with
    | nil => intro y hy; simp at hy hz; rw [hy, hz]; exact Int.le_refl _
    | cons x2 xs2 =>
      rw [List.getLast?_cons_cons] at hz
      intro y hy
      rcases List.mem_cons.1 hy with rfl | hy
      · exact h1 z (List.mem_of_getLast? hz)
      · exact ih h2 hz y hy

/-- One step of a sign. -/
def stepI (h v : Int) : Int :=
  let m := IntKind.u64.wrap (bits .xor .u64 h v * 11507291218515648293)
  IntKind.u64.wrap (m * 536870912) + m / 34359738368
abbrev U64 (n : Int) : Prop := 0 ≤ n ∧ n ≤ 18446744073709551615
theorem u64_wrap_range (n : Int) : U64 (IntKind.u64.wrap n) := by rw [IntKind.wrap_u64]; unfold U64; omega
theorem u64_wrap_in (n : Int) (h : U64 n) : IntKind.u64.wrap n = n := by rw [IntKind.wrap_u64]; unfold U64 at h; omega
theorem rot_range (m : Int) (h : U64 m) : U64 (IntKind.u64.wrap (m * 536870912) + m / 34359738368) := by
  rw [IntKind.wrap_u64]; unfold U64 at *; omega
theorem stepI_range (h v : Int) : U64 (stepI h v) := rot_range _ (u64_wrap_range _)

def sigStart (d : LedD) : Int := match d.ents.getLast? with | some x => x.sign | none => stepI d.key 1
def uw (n : Int) : Int := IntKind.u64.wrap n
def signOf (d : LedD) (x : EntD) : Int := stepI (stepI (stepI (stepI (stepI (sigStart d) (uw x.frm)) (uw x.to)) (uw x.amt)) (uw x.day)) d.key

/-- The error of an entry. -/
def postErr (d : LedD) (x : EntD) : Int :=
  if ¬ (d.ents.length : Int) < 5000 then 2
  else if ¬ (0 ≤ x.frm ∧ x.frm < d.n ∧ 0 ≤ x.to ∧ x.to < d.n ∧ x.frm ≠ x.to) then 1
  else if (d.at' x.frm).good ≠ (d.at' x.to).good then 140
  else if ¬ (1 ≤ x.amt ∧ x.amt ≤ 1000000000000 ∧ 0 ≤ x.day ∧ x.day ≤ 100000) then 6
  else if x.day ≤ d.closed then 12
  else if x.day < d.last then 11
  else if (d.at' x.frm).stock = true ∧ balA x.frm d.ents < x.amt then 9
  else 0
def postD (d : LedD) (x : EntD) : LedD := { d with ents := d.ents ++ [⟨x, signOf d x⟩] }
def newD (key : Int) (l : List AccD) : LedD := ⟨key, l, [], -1⟩

/-- What every ledger keeps. -/
structure LedOk (d : LedD) : Prop where
  acc : checkE d.acc = 0
  len : d.ents.length ≤ 5000
  amt : AmtOk d.ents
  idx : ∀ x ∈ d.ents, 0 ≤ x.e.frm ∧ x.e.frm < d.n ∧ 0 ≤ x.e.to ∧ x.e.to < d.n ∧ x.e.frm ≠ x.e.to
  good : ∀ x ∈ d.ents, (d.at' x.e.frm).good = (d.at' x.e.to).good
  day : ∀ x ∈ d.ents, 0 ≤ x.e.day ∧ x.e.day ≤ 100000
  up : DaysUp d.ents
  clo : -1 ≤ d.closed ∧ d.closed ≤ 100000
  key : U64 d.key
  sig : ∀ x ∈ d.ents, U64 x.sign
theorem LedOk.n1 {d : LedD} (h : LedOk d) : 1 ≤ d.n ∧ d.n ≤ 40 := by
  have := h.acc; unfold checkE at this; split at this
  · assumption
  · omega
theorem signOf_range (d : LedD) (x : EntD) : U64 (signOf d x) := stepI_range _ _
theorem postErr_ok {d : LedD} {x : EntD} (h : postErr d x = 0) : (d.ents.length : Int) < 5000 ∧ (0 ≤ x.frm ∧ x.frm < d.n ∧ 0 ≤ x.to ∧ x.to < d.n ∧ x.frm ≠ x.to) ∧ (d.at' x.frm).good = (d.at' x.to).good ∧ (1 ≤ x.amt ∧ x.amt ≤ 1000000000000 ∧ 0 ≤ x.day ∧ x.day ≤ 100000) ∧ d.closed < x.day ∧ d.last ≤ x.day ∧ ((d.at' x.frm).stock = true → x.amt ≤ balA x.frm d.ents) := by
  unfold postErr at h
  split at h
  · omega
  rename_i h1
  split at h
  · omega
  rename_i h2
  split at h
  · omega
  rename_i h3
  split at h
  · omega
  rename_i h4
  split at h
  · omega
  rename_i h5
  split at h
  · omega
  rename_i h6
  split at h
  · omega
  rename_i h7
  refine ⟨Decidable.not_not.1 h1, Decidable.not_not.1 h2, Decidable.not_not.1 h3, Decidable.not_not.1 h4, by omega, by omega, fun hs => ?_⟩
  rcases Int.lt_or_le (balA x.frm d.ents) x.amt with h8 | h8
  · exact absurd ⟨hs, h8⟩ h7
  · exact h8
theorem LedOk.post {d : LedD} {x : EntD} (h : LedOk d) (hx : postErr d x = 0) : LedOk (postD d x) := by
  obtain ⟨h1, h2, h3, h4, h5, h6, _⟩ := postErr_ok hx
  have mem : ∀ y ∈ (postD d x).ents, y ∈ d.ents ∨ y = ⟨x, signOf d x⟩ := fun y hy => by simpa [postD] using hy
  refine ⟨h.acc, by simp [postD]; omega, fun y hy => ?_, fun y hy => ?_, fun y hy => ?_, fun y hy => ?_, ?_, h.clo, h.key, fun y hy => ?_⟩
  · rcases mem y hy with k | rfl
    · exact h.amt y k
    · exact ⟨h4.1, h4.2.1⟩
  · rcases mem y hy with k | rfl
    · exact h.idx y k
    · exact h2
  · rcases mem y hy with k | rfl
    · exact h.good y k
    · exact h3
  · rcases mem y hy with k | rfl
    · exact h.day y k
    · exact ⟨h4.2.2.1, h4.2.2.2⟩
  · refine h.up.snoc fun y hy => ?_
    unfold LedD.last at h6
    cases hg : d.ents.getLast? with
    | none => rw [List.getLast?_eq_none_iff] at hg; rw [hg] at hy; cases hy
    | some z => rw [hg] at h6; have := h.up.le_last hg y hy; dsimp only at h6 ⊢; omega
  · rcases mem y hy with k | rfl
    · exact h.sig y k
    · exact signOf_range d x
theorem LedOk.new {key : Int} {l : List AccD} (hk : U64 key) (h : checkE l = 0) : LedOk (newD key l) := by
  refine ⟨h, by simp [newD], ?_, ?_, ?_, ?_, trivial, ⟨by show (-1:Int) ≤ -1; omega, by show (-1:Int) ≤ 100000; omega⟩, hk, ?_⟩ <;> intro x hx <;> cases hx
theorem LedOk.bal {d : LedD} (h : LedOk d) (i : Int) : -5000000000000000 ≤ balA i d.ents ∧ balA i d.ents ≤ 5000000000000000 := by
  have h1 := balA_bound i d.ents h.amt
  have h2 := h.len
  omega
theorem LedOk.balU {d : LedD} (h : LedOk d) (i day : Int) (k : Nat) : -5000000000000000 ≤ balU i day (d.ents.take k) ∧ balU i day (d.ents.take k) ≤ 5000000000000000 := by
  have h1 := balU_bound i day (d.ents.take k) (fun x hx => h.amt x (List.mem_of_mem_take hx))
  have h2 := h.len
  have h3 : (d.ents.take k).length ≤ d.ents.length := by simp; omega
  omega
end Go.Proofs.Ytekplfbfkfiabaa
