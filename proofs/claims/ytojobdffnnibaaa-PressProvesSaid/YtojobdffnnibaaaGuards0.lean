/- PressGuards: what each step of a round leads to. -/
import Derived.Test.YtojobdffnnibaaaPDoF
import Derived.Test.YtojobdffnnibaaaAgainst
import Derived.Test.YtojobdffnnibaaaLFn
namespace Go.Proofs.Ytojobdffnnibaaa
open Go.RowKit
set_option linter.unusedVariables false
set_option linter.unusedSimpArgs false

theorem Good.small {p : PressD} {s : StD} (g : Good p s) : s.units.length ≤ 3 ∧ 1 ≤ s.units.length := by
  have := pErr_len g.pe
  rw [g.len]; omega
theorem owns_ne' {w : World} {B sz n : Nat} {e t : TypeId} {v : Value} {xs : List Value} {b : Nat} {cs : Array Value} (h : w.ownsRow B e sz v n xs) (hb : Blk w b cs t) (ht : e ≠ t) : ∀ k, v.ownBlock = some k → ¬ k = b := fun k hk e => by
  rcases h.2 with ⟨hv, _⟩ | ⟨g, cap, cur, hv, _, hgb, _⟩
  · rw [hv] at hk; cases hk
  · rw [hv] at hk
    have e2 : g = b := (Option.some.inj hk).trans e
    subst e2
    exact ht (blk_ty hgb hb)
/-- An error that a round lets by. -/
def okE (er : Int) : Prop := er = 0 ∨ er = 80 ∨ er = 6

theorem gd_begin {p : PressD} (vj : Value) (w : World) (hj : Truths w vj p.jam) (h : pErr p = 0) :
    Calls Try.prog 20 #[pV vj p] w fun e w' => ∃ v, e = .returned (.tuple #[sV v (beginD p), .int .i64 0]) ∧ OwU w' v (beginD p) ∧ Ext w w' :=
  (begin_any p vj w hj).mono fun e w' hp => by
    obtain ⟨_, vu, he, hown, hx⟩ := hp.resolve_left fun h2 => h2.1 h
    refine ⟨vu, he, ?_, hx⟩
    have hl : (beginD p).units.length = p.jam.length := by simp [beginD]
    unfold OwU
    rw [hl]
    exact owns_weak hown (Nat.zero_le _)
theorem gd_do {p : PressD} {s : StD} (g : Good p s) (k : Int) (i : Nat) (hk : 1 ≤ k ∧ k ≤ 12) (hi : i < s.units.length) (hu : 7 ≤ k ∧ k ≤ 11 → i = 0) (vj vu : Value) (w : World) (hj : Truths w vj p.jam) (ho : OwU w vu s) :
    Calls Try.prog 22 #[pV vj p, sV vu s, .agg #[.int .i64 k, .int .i64 i]] w fun e w' => ∃ t er v, e = .returned (.tuple #[sV v t, .int .i64 er]) ∧ okE er ∧ (er = 0 → Good p t) ∧ OwU w' v t ∧ Ext w w' := by
  have hs := (good_iff p s).2 g
  have hde : doErr p s k i = actErr p s k i := by unfold doErr; rw [if_neg (by rw [hs]; simp)]
  have hae : actErr p s k i = 0 ∨ actErr p s k i = 80 := by
    unfold actErr
    rw [if_neg (by omega), if_neg]
    · split <;> simp
    · rintro (h | h | ⟨h1, h2⟩)
      · omega
      · omega
      · unfold ofUnit at h1
        simp at h1
        have := hu h1
        omega
  refine (do_any p s k i vj vu w hj (ho.un (by have := g.small; omega)) (by have := g.small; omega) (by unfold I64; omega)).mono fun e w' hp => ?_
  obtain ⟨v, he, hown, hx⟩ := hp
  refine ⟨_, _, v, he, ?_, fun h0 => ?_, hown, hx⟩
  · rw [hde]
    rcases hae with h | h
    · exact .inl h
    · exact .inr (.inl h)
  · unfold doS
    rw [if_pos h0]
    exact act_good g (hde ▸ h0)
theorem gd_break {p : PressD} {s : StD} (g : Good p s) (i : Nat) (hi : i < s.units.length) (vj vu : Value) (w : World) (hj : Truths w vj p.jam) (ho : OwU w vu s) :
    Calls Try.prog 21 #[pV vj p, sV vu s, .int .i64 i] w fun e w' => ∃ t lo er v, e = .returned (.tuple #[sV v t, .int .i64 lo, .int .i64 er]) ∧ okE er ∧ (er = 0 → Good p t) ∧ OwU w' v t ∧ Ext w w' := by
  have hs := (good_iff p s).2 g
  have hb : brErr p s i = 0 ∨ brErr p s i = 80 := by
    unfold brErr
    rw [if_neg (by rw [hs]; simp), if_neg (by omega)]
    split <;> simp
  refine (break_any p s i vj vu w hj (ho.un (by have := g.small; omega)) (by have := g.small; omega) (by have := g.small; unfold I64; omega)).mono fun e w' hp => ?_
  rcases hp with ⟨h0, he, hx⟩ | ⟨h0, v, he, hown, hx⟩
  · exact ⟨zD, 0, _, .slice none 0 0, he, by rcases hb with h | h; exact absurd h h0; exact .inr (.inl h), fun h => absurd h h0, OwU.nil _, hx⟩
  · refine ⟨_, _, 0, v, he, .inl rfl, fun _ => break_good g h0, ?_, hx⟩
    have hl : (brD s (i:Int).toNat).units.length = s.units.length := by simp [brD]
    unfold OwU
    rw [hl]
    exact owns_weak hown (Nat.zero_le _)
theorem gd_print {p : PressD} {s : StD} (g : Good p s) (n : Int) (hn : 0 ≤ n ∧ n ≤ 1000) (vj vu : Value) (w : World) (hj : Truths w vj p.jam) (ho : OwU w vu s) :
    Calls Try.prog 13 #[pV vj p, sV vu s, .int .i64 n] w fun e w' => ∃ t vw er v, e = .returned (.tuple #[sV v t, vw, .int .i64 er]) ∧ okE er ∧ (er = 0 → Good p t) ∧ OwU w' v t ∧ Ext w w' := by
  have hs := (good_iff p s).2 g
  have hb : okE (prErr p s n) := by
    unfold prErr okE
    rw [if_neg (by rw [hs]; simp)]
    split
    · exact .inr (.inr rfl)
    · split
      · exact .inr (.inl rfl)
      · exact .inl rfl
  refine (print_any p s n vj vu w hj (ho.un (by have := g.small; omega)) (by have := g.small; omega) (by unfold I64; omega)).mono fun e w' hp => ?_
  rcases hp with ⟨h0, he, hx⟩ | ⟨h0, v, vw, he, hown, _, hx⟩
  · exact ⟨zD, _, _, .slice none 0 0, he, hb, fun h => absurd h h0, OwU.nil _, hx⟩
  · refine ⟨_, vw, 0, v, he, .inl rfl, fun _ => print_good g h0, ?_, hx⟩
    have hl : (prD s n).units.length = s.units.length := by simp [prD]
    unfold OwU
    rw [hl]
    exact owns_weak hown (Nat.zero_le _)
theorem gd_safe {p : PressD} {s : StD} (g : Good p s) (vj vu : Value) (w : World) (hj : Truths w vj p.jam) (ho : OwU w vu s) :
    Calls Try.prog 23 #[pV vj p, sV vu s] w fun e w' => e = .returned (.tuple #[.bool true, .int .i64 0]) ∧ Ext w w' := by
  obtain ⟨h1, h2, h3⟩ := stErr_ok ((good_iff p s).2 g)
  have e1 : safeE p s = 0 := by unfold safeE; rw [if_neg (by simp [h1]), if_pos h2]
  have e2 : safeB p s = true := by unfold safeB; rw [e1, h3]; rfl
  have := safe_any' p s vj vu w hj (ho.un (by have := g.small; omega))
  rw [e1, e2] at this
  exact this
end Go.Proofs.Ytojobdffnnibaaa
