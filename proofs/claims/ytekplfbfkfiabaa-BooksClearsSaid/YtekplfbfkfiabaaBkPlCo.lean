/- What closing a day leads to, in plain words. -/
import Derived.Test.YtekplfbfkfiabaaBkClose
namespace Go.Proofs.Ytekplfbfkfiabaa
set_option linter.unusedVariables false

theorem closeF_ok (day : Int) : ∀ (r : List (Nat × Int)) (d : LedD) (ds : List Int), LedOk d → LedOk (closeF day d ds r).1 ∧ (closeF day d ds r).1.acc = d.acc ∧ (closeF day d ds r).1.key = d.key ∧ (closeF day d ds r).1.closed = d.closed
  | [], d, ds, h => ⟨h, rfl, rfl, rfl⟩
  | (k, c) :: r, d, ds, h => by
    unfold closeF
    split
    · exact closeF_ok day r d _ h
    · split
      · exact ⟨h, rfl, rfl, rfl⟩
      · rename_i h2
        have h3 := h.post (Decidable.not_not.1 h2)
        obtain ⟨k1, k2, k3, k4⟩ := closeF_ok day r _ (ds ++ [c - balA k d.ents]) h3
        exact ⟨k1, k2, k3, k4⟩
theorem LedOk.closed {d : LedD} (h : LedOk d) {day : Int} (hd : -1 ≤ day ∧ day ≤ 100000) : LedOk { d with closed := day } :=
  ⟨h.acc, h.len, h.amt, h.idx, h.good, h.day, h.up, hd, h.key, h.sig⟩
end Go.Proofs.Ytekplfbfkfiabaa
