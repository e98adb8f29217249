import Derived.Test.YtekplfbfkfiabaaGrTab
/- Clear in plain words, step by step as the program takes it. -/
namespace Go.Proofs.Ytekplfbfkfiabaa
open Go.RowKit
set_option linter.unusedVariables false

structure PayD where
  from_ : Nat
  to_ : Nat
  n : Int
deriving Repr, DecidableEq
/-- Whether a party of the group owes, or is owed. -/
def okC (left G : List Int) (num : Int) (owes : Bool) (i : Nat) : Bool := gI G i == num && (owes && decide (gI left i < 0) || !owes && decide (gI left i > 0))
def firstI (left G : List Int) (num : Int) (owes : Bool) : Nat → Nat → Option Nat
  | 0, _ => none
  | f + 1, i => if okC left G num owes i then some i else firstI left G num owes f (i + 1)
def firstC (left G : List Int) (num : Int) (owes : Bool) : Option Nat := firstI left G num owes left.length 0
def firstV : Option Nat → Int
  | none => -1
  | some i => i
/-- One group's payments. -/
def clrIn (G : List Int) (num : Int) : Nat → List Int → List PayD → Option (List Int × List PayD)
  | 0, _, _ => none
  | f + 1, left, out => match firstC left G num true with
    | none => some (left, out)
    | some a => match firstC left G num false with
      | none => none
      | some b => clrIn G num f ((left.set a (gI left a + min (-(gI left a)) (gI left b))).set b (gI (left.set a (gI left a + min (-(gI left a)) (gI left b))) b - min (-(gI left a)) (gI left b))) (out ++ [⟨a, b, min (-(gI left a)) (gI left b)⟩])
def clrN (G : List Int) : Nat → Nat → List Int → List PayD → Option (List PayD)
  | 0, _, _, out => some out
  | r + 1, k, left, out => match clrIn G k 25 left out with
    | none => none
    | some (l, o) => clrN G r (k + 1) l o
/-- The payments, if the program comes to an end. -/
def clearP (l G : List Int) : Option (List PayD) := clrN G l.length 0 l []
theorem firstI_ge {left G : List Int} {num : Int} {owes : Bool} : ∀ (f i a : Nat), firstI left G num owes f i = some a → i ≤ a ∧ a < i + f ∧ okC left G num owes a = true
  | 0, i, a, h => by cases h
  | f + 1, i, a, h => by
    unfold firstI at h
    split at h
    · rename_i hk
      cases h
      exact ⟨Nat.le_refl _, by omega, hk⟩
    · obtain ⟨h1, h2, h3⟩ := firstI_ge f (i + 1) a h
      exact ⟨by omega, by omega, h3⟩
example : clearP [-5, 3, 2, -4, 4] [0, 0, 0, 1, 1] = some [⟨0, 1, 3⟩, ⟨0, 2, 2⟩, ⟨3, 4, 4⟩] := by decide +kernel
end Go.Proofs.Ytekplfbfkfiabaa

/- The first party of a group that owes, or is owed (Clear's function value). -/
namespace Go.Proofs.Ytekplfbfkfiabaa
open Go.RowKit Go.Shelf
set_option linter.unusedVariables false
set_option linter.unusedSimpArgs false
attribute [local go_sem] Oper.semAt_some

theorem firstI_go {left G : List Int} {num : Int} {owes : Bool} {f i : Nat} : firstI left G num owes (f + 1) i = if okC left G num owes i then some i else firstI left G num owes f (i + 1) := rfl
def FirstPost (left G : List Int) (num : Int) (owes : Bool) (w : World) (e : Ending) (w' : World) : Prop := e = .returned (.int .i64 (firstV (firstC left G num owes))) ∧ Ext w w'
set_option maxRecDepth 100000 in
set_option maxHeartbeats 4000000 in
theorem first_any (left G : List Int) (num : Int) (owes : Bool) (lb gb nb : Nat) (vl vg : Value) (w : World) (hl : Blk w lb #[vl] 22) (hg : Blk w gb #[vg] 22) (hn : Blk w nb #[.int .i64 num] 3)
    (hL : Ints w vl left) (hG : Ints w vg G) (hs : G.length = left.length) (hlen : left.length ≤ 1000) :
    Calls Try.prog 62 #[.bool owes, .pointer (some ⟨lb, 0, none⟩), .pointer (some ⟨gb, 0, none⟩), .pointer (some ⟨nb, 0, none⟩)] w (FirstPost left G num owes w) := by
  have hp : ∀ e w', FirstPost left G num owes w e w' → FirstPost left G num owes w e w' := fun _ _ h => h
  obtain ⟨al, cl, rfl, HL⟩ := hL.form
  obtain ⟨ag, cg, rfl, HG⟩ := hG.form
  have HP := Lib.hid hp
  have LB := Lib.hid hl
  have GB := Lib.hid hg
  have NB := Lib.hid hn
  have HS := Lib.hid hs
  clear hp hl hg hn hs
  clear hL hG
  have hl0 := LB.out.cell 0
  go_enter Try.func62, Try.ntmps62
  go_upto_region 2 with (fail)
  clear hl0
  go_loopw [10] (fun s wr => ∃ i : Nat, i ≤ left.length ∧ s = .int .i64 i ∧ Hid (firstI left G num owes (left.length - i) i = firstC left G num owes) ∧ Hid (Ext w wr)) (fun s _ => left.length - (intOf s).toNat)
  case atStart => exact ⟨0, Nat.zero_le _, rfl, rfl, Below.refl _ _⟩
  case round =>
    obtain ⟨i, hi, rfl, HF, X⟩ := hrel
    by_cases hlt : i < left.length
    · obtain ⟨b, o, rfl, hc⟩ := HL.out.cells (by omega)
      obtain ⟨b2, o2, rfl, hc2⟩ := HG.out.cells (by rw [HS.out]; omega)
      have c0 := X.out.cellSome (hc i hlt)
      have c1 := X.out.cellSome (hc2 i (by rw [HS.out]; exact hlt))
      have l0 := (LB.out.ext X.out).cell 0
      have g0 := (GB.out.ext X.out).cell 0
      have n0 := (NB.out.ext X.out).cell 0
      have hf := HF.out
      obtain ⟨f, hfu⟩ : ∃ f, left.length - i = f + 1 := ⟨left.length - i - 1, by omega⟩
      rw [hfu, firstI_go] at hf
      have hok : okC left G num owes i = (G[i]'(by rw [HS.out]; exact hlt) == num && (owes && decide (left[i] < 0) || !owes && decide (left[i] > 0))) := by
        unfold okC
        rw [gI_get hlt, gI_get (by rw [HS.out]; exact hlt)]
      obtain ⟨u, hu⟩ : ∃ u, u = left[i] := ⟨_, rfl⟩
      obtain ⟨g, hg⟩ : ∃ g, g = G[i]'(by rw [HS.out]; exact hlt) := ⟨_, rfl⟩
      rw [← hu] at c0 hok
      rw [← hg] at c1 hok
      have hfu2 : left.length - (i + 1) = f := by omega
      have j1 : (0:Int) ≤ (i:Int) := by omega
      have j2 : (i:Int) < (left.length:Int) := by omega
      have hs2 : (G.length : Int) = (left.length : Int) := by rw [HS.out]
      obtain ⟨k, hk⟩ : ∃ k, k = okC left G num owes i := ⟨_, rfl⟩
      rw [← hk] at hf hok
      rw [← hfu2] at hf
      have HF2 := Lib.hid hf
      have HOK := Lib.hid hok
      clear hf hok
      clear hc hc2 hu hg hk hfu hfu2 HF
      by_cases q1 : g = num
      · have q2 : (g == num) = true := by simpa using q1
        cases owes with
        | true =>
          by_cases q3 : u < 0
          · have HK : Hid (k = true) := Lib.hid (by rw [HOK.out, q2, decide_eq_true q3]; rfl)
            go_upto_region 4 with (fail)
            go_quiet (fail)
            have HN : Hid (firstC left G num _ = some i) := Lib.hid (by have h := HF2.out; rw [HK.out, if_pos rfl] at h; exact h.symm)
            go_wp2
            go_ret
            exact HP.out _ _ ⟨by rw [HN.out]; rfl, X.out.tr (Ext.of_drewN _ _)⟩
          · have HK : Hid (k = false) := Lib.hid (by rw [HOK.out, q2, decide_eq_false q3]; rfl)
            go_upto_region 4 with (fail)
            go_quiet (fail)
            go_wp2
            go_roundw
            case rel => exact ⟨i + 1, by omega, by go_num, Lib.hid (by have h := HF2.out; rw [HK.out, if_neg (by decide)] at h; exact h), Lib.hid (X.out.tr (Ext.of_drewN _ _))⟩
            case measure => simp [intOf]; omega
        | false =>
          by_cases q3 : u > 0
          · have HK : Hid (k = true) := Lib.hid (by rw [HOK.out, q2, decide_eq_true q3]; rfl)
            go_upto_region 4 with (fail)
            go_quiet (fail)
            have HN : Hid (firstC left G num _ = some i) := Lib.hid (by have h := HF2.out; rw [HK.out, if_pos rfl] at h; exact h.symm)
            go_wp2
            go_ret
            exact HP.out _ _ ⟨by rw [HN.out]; rfl, X.out.tr (Ext.of_drewN _ _)⟩
          · have HK : Hid (k = false) := Lib.hid (by rw [HOK.out, q2, decide_eq_false q3]; rfl)
            go_upto_region 4 with (fail)
            go_quiet (fail)
            go_wp2
            go_roundw
            case rel => exact ⟨i + 1, by omega, by go_num, Lib.hid (by have h := HF2.out; rw [HK.out, if_neg (by decide)] at h; exact h), Lib.hid (X.out.tr (Ext.of_drewN _ _))⟩
            case measure => simp [intOf]; omega
      · have q2 : (g == num) = false := by simpa using q1
        have HK : Hid (k = false) := Lib.hid (by rw [HOK.out, q2]; rfl)
        go_upto_region 4 with (fail)
        go_quiet (fail)
        go_wp2
        go_roundw
        case rel => exact ⟨i + 1, by omega, by go_num, Lib.hid (by have h := HF2.out; rw [HK.out, if_neg (by decide)] at h; exact h), Lib.hid (X.out.tr (Ext.of_drewN _ _))⟩
        case measure => simp [intOf]; omega
    · obtain rfl : i = left.length := by omega
      have hf := HF.out
      rw [Nat.sub_self] at hf
      have HN : Hid (firstC left G num owes = none) := Lib.hid hf.symm
      have l0 := (LB.out.ext X.out).cell 0
      clear hf HF
      go_wp2
      go_ret
      exact HP.out _ _ ⟨by rw [HN.out]; rfl, X.out⟩
end Go.Proofs.Ytekplfbfkfiabaa

/- A row of numbers with room behind it, in memory. -/
namespace Go.Proofs.Ytekplfbfkfiabaa
open Go.RowKit Go.Shelf
set_option linter.unusedVariables false
set_option linter.unusedSimpArgs false

def RowI (W : World) (pl : Nat) (xs : List Int) : Prop := ∃ cs, Blk W pl cs 3 ∧ xs.length ≤ cs.size ∧ ∀ i, i < xs.length → cs[i]? = some (.int .i64 (gI xs i))
section
variable {W W' : World} {pl : Nat} {xs : List Int}
theorem RowI.ext (h : RowI W pl xs) (k : Ext W W') : RowI W' pl xs := let ⟨cs, h1, h2, h3⟩ := h; ⟨cs, h1.ext k, h2, h3⟩
theorem RowI.only {S : Nat → Prop} (h : RowI W pl xs) (k : Only S W W') (hs : ¬ S pl) : RowI W' pl xs := let ⟨cs, h1, h2, h3⟩ := h; ⟨cs, h1.only k hs, h2, h3⟩
theorem RowI.lt (h : RowI W pl xs) : pl < W.heap.size := let ⟨cs, h1, _, _⟩ := h; h1.lt
theorem RowI.cell (h : RowI W pl xs) {i : Nat} (hi : i < xs.length) : W.cell? ⟨pl, i, none⟩ = some (.int .i64 (gI xs i)) := let ⟨cs, h1, h2, h3⟩ := h; by rw [h1.cell, h3 i hi]
theorem RowI.set_cs {cs : Array Value} (h2 : xs.length ≤ cs.size) (h3 : ∀ i, i < xs.length → cs[i]? = some (.int .i64 (gI xs i))) {j : Nat} (hj : j < xs.length) (x : Int) :
    (xs.set j x).length ≤ (cs.setIfInBounds j (.int .i64 x)).size ∧ ∀ i, i < (xs.set j x).length → (cs.setIfInBounds j (.int .i64 x))[i]? = some (.int .i64 (gI (xs.set j x) i)) := by
  refine ⟨by simpa using h2, fun i hi => ?_⟩
  rw [List.length_set] at hi
  by_cases e : i = j
  · subst e
    rw [gI_setS _ hj, Array.getElem?_setIfInBounds_self_of_lt (by omega)]
  · rw [gI_setO _ e, Array.getElem?_setIfInBounds_ne (fun h => e h.symm), h3 i hi]
theorem RowI.of_owns {base : Nat} {v : Value} (h : W.ownsRow base 3 1 v xs.length (xs.map (.int .i64))) (h0 : 0 < xs.length) : ∃ pl cap, v = .slice (some ⟨pl, 0, none⟩) xs.length cap ∧ base ≤ pl ∧ RowI W pl xs := by
  rcases h.2 with ⟨_, e0⟩ | ⟨g, cap, cur, hv, hg, hh, h1, h2, h3, h4⟩
  · omega
  · refine ⟨g, cap, hv, hg, cur, hh, by omega, fun i hi => ?_⟩
    rw [Nat.mul_one] at h4
    have h5 : (cur.toList.take xs.length)[i]? = (xs.map (Value.int .i64))[i]? := by rw [h4]
    rw [List.getElem?_take_of_lt hi, Array.getElem?_toList] at h5
    rw [h5, List.getElem?_map, List.getElem?_eq_getElem hi, gI_get hi]
    rfl
theorem RowI.ints (h : RowI W pl xs) (cap : Nat) (hb : xs.length ≤ 1000000) : Ints W (.slice (some ⟨pl, 0, none⟩) xs.length cap) xs := by
  refine ⟨by simp; omega, some ⟨pl, 0, none⟩, cap, by simp, (fun e => nomatch e), fun h0 => ⟨pl, 0, rfl, fun i u hi => ?_⟩⟩
  rw [List.getElem?_map] at hi
  rcases hg : xs[i]? with _ | x
  · rw [hg] at hi; cases hi
  · rw [hg] at hi
    cases hi
    obtain ⟨hlt, hx⟩ := List.getElem?_eq_some_iff.1 hg
    rw [Nat.zero_add, h.cell hlt, gI_get hlt, hx]
end
end Go.Proofs.Ytekplfbfkfiabaa
