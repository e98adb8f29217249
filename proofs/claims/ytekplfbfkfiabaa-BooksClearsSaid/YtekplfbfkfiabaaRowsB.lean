/- What accounts and signed entries that came in read as. -/
import Derived.Test.YtekplfbfkfiabaaBkLed
import Derived.Test.YtekplfbfkfiabaaBkPost2
import Derived.OpenShut
import Derived.Lib.SmallJoins
import Derived.Deep.Grids
import Derived.SizedLaws
namespace Go.Proofs.Ytekplfbfkfiabaa
open Go.RowKit Go.ChangeShapes
set_option linter.unusedVariables false

theorem spotB_none {w : World} {a : Addr} {v : Value} (h : w.cell? a = some v) : a.spot = none := by
  unfold World.cell? at h
  split at h
  · split at h
    · cases h
    · rename_i hs; simpa using hs
  · cases h
theorem addB (b o m : Nat) : ((⟨b, o, none⟩ : Addr).add m) = ⟨b, o + m, none⟩ := by unfold Addr.add; split <;> simp_all
theorem addB_add (b o m j : Nat) : (((⟨b, o, none⟩ : Addr).add m).add j) = ⟨b, o + m + j, none⟩ := by rw [addB, addB]
/-- A slice of structs that came in. -/
theorem st_in {α : Type} [Inhabited α] {z : Nat} {f : α → List Value} {T e : TypeId} (hz : ∀ x, (f x).length = z) (hz0 : 0 < z) (ht : Try.prog.underlying T = some (.slice e)) (hce : Try.prog.cellsOf e = z) (G : α → Prop)
    {H : Type} {enc : TypeId × Value → H} {w : World} {base : Nat} {spare : Nat → Bool} {held : Bool}
    (each : ∀ n cs y, DataW.trod enc Try.prog w base spare held n e cs = some y → ∃ x : α, cs = f x ∧ G x)
    {fuel len cap : Nat} {a : Option Addr} {x : DataW H × List MemPlace} (hf : DataW.trod enc Try.prog w base spare held fuel T [.slice a len cap] = some x) :
    ∃ l : List α, l.length = len ∧ StIn z f w (.slice a len cap) l ∧ ∀ x ∈ l, G x := by
  rcases DataW.trod_slice ht hf with ⟨hcs, _⟩ | ⟨a, len', cap', elems, rest, n, _, hcs, _, hb, hl, hm, hlen, hel, hsp, hns⟩
  · simp at hcs
    obtain ⟨rfl, rfl, rfl⟩ := hcs
    exact ⟨[], rfl, StIn.nil w, fun x hx => by cases hx⟩
  · simp at hcs
    obtain ⟨rfl, rfl, rfl⟩ := hcs
    unfold maxLen at hm
    have one : ∀ i, i < len → ∃ x : α, (∀ j, j < z → w.cell? ((a.add (i * z)).add j) = (f x)[j]?) ∧ G x := fun i hi => by
      have h1 := hel i hi
      rw [hce, List.getElem?_eq_getElem (by omega), Option.bind_eq_some_iff] at h1
      obtain ⟨cs, h2, h3⟩ := h1
      obtain ⟨x, rfl, hg⟩ := each _ _ _ h3
      exact ⟨x, (World.cells?_some h2).2.2, hg⟩
    have hchoose : ∃ g : Nat → α, ∀ i, i < len → (∀ j, j < z → w.cell? ((a.add (i * z)).add j) = (f (g i))[j]?) ∧ G (g i) :=
      ⟨fun i => if h : i < len then Classical.choose (one i h) else default, fun i hi => by dsimp only; rw [dif_pos hi]; exact Classical.choose_spec (one i hi)⟩
    obtain ⟨g, hg0⟩ := hchoose
    refine ⟨(List.range len).map g, by simp, ⟨by simp; omega, some a, cap, by simp, fun h => (by cases h), fun h0 => ?_⟩, fun x hx => ?_⟩
    · have h0' : 0 < len := by simpa using h0
      obtain ⟨b, o, sp⟩ := a
      have h00 := (hg0 0 h0').1 0 hz0
      have e0 : (((⟨b, o, sp⟩ : Addr).add (0 * z)).add 0) = ⟨b, o, sp⟩ := by unfold Addr.add; simp
      rw [e0] at h00
      obtain ⟨v0, hv0⟩ : ∃ v, (f (g 0))[0]? = some v := ⟨_, List.getElem?_eq_getElem (by rw [hz]; exact hz0)⟩
      rw [hv0] at h00
      have hs : sp = none := spotB_none h00
      subst hs
      refine ⟨b, o, rfl, fun i hi j hj => ?_⟩
      have hi' : i < len := by simpa using hi
      have h1 := (hg0 i hi').1 j hj
      rw [addB_add] at h1
      rw [h1]
      simp
    · obtain ⟨i, hi, rfl⟩ := List.mem_map.1 hx
      exact (hg0 i (by simpa using hi)).2
section
variable {H : Type} {enc : TypeId × Value → H} {w : World} {base : Nat} {spare : Nat → Bool} {held : Bool}
set_option maxRecDepth 100000 in
theorem acc_in {n : Nat} {cs : List Value} {y : DataW H × List MemPlace} (h : DataW.trod enc Try.prog w base spare held n 52 cs = some y) : ∃ x : AccD, cs = accC x ∧ I64 x.good := by
  obtain ⟨y0, y1, m, _, hl, t0, t1⟩ := trod_struct2 Try.underlying52 h
  have hc : Try.prog.cellsOf 52 = 2 := by kernel_rfl
  have hc1 : Try.prog.cellsOf 3 = 1 := by kernel_rfl
  have hcb : Try.prog.cellsOf 4 = 1 := by kernel_rfl
  rw [hc] at hl
  match cs, hl with
  | [c0, c1], _ =>
    obtain ⟨n0, e0, _, w0⟩ := DataW.trod_int Try.underlying3 t0
    obtain ⟨n1, e1, _⟩ := DataW.trod_bool Try.underlying4 t1
    rw [hc1] at e0
    rw [hcb] at e1
    simp at e0 e1
    subst e0 e1
    exact ⟨⟨n0, n1⟩, rfl, bounds_i64 w0⟩
set_option maxRecDepth 100000 in
theorem sig_in {n : Nat} {cs : List Value} {y : DataW H × List MemPlace} (h : DataW.trod enc Try.prog w base spare held n 145 cs = some y) : ∃ x : SigD, cs = sigC x ∧ x.e.fits ∧ U64 x.sign := by
  obtain ⟨y0, y1, m, _, hl, t0, t1⟩ := trod_struct2 Try.underlying145 h
  have hc : Try.prog.cellsOf 145 = 5 := by kernel_rfl
  have hc4 : Try.prog.cellsOf 57 = 4 := by kernel_rfl
  have hc1 : Try.prog.cellsOf 3 = 1 := by kernel_rfl
  have hcu : Try.prog.cellsOf 42 = 1 := by kernel_rfl
  rw [hc] at hl
  match cs, hl with
  | [c0, c1, c2, c3, c4], _ =>
    obtain ⟨z0, z1, z2, z3, m2, _, _, s0, s1, s2, s3⟩ := Go.Joins.trod_struct4 Try.underlying57 t0
    obtain ⟨n0, e0, _, w0⟩ := DataW.trod_int Try.underlying3 s0
    obtain ⟨n1, e1, _, w1⟩ := DataW.trod_int Try.underlying3 s1
    obtain ⟨n2, e2, _, w2⟩ := DataW.trod_int Try.underlying3 s2
    obtain ⟨n3, e3, _, w3⟩ := DataW.trod_int Try.underlying3 s3
    obtain ⟨n4, e4, _, w4⟩ := DataW.trod_int Try.underlying42 t1
    rw [hc1] at e0 e1 e2 e3
    rw [hc4] at e0 e1 e2 e3
    rw [hcu] at e4
    simp at e0 e1 e2 e3 e4
    subst e0 e1 e2 e3 e4
    exact ⟨⟨⟨n0, n1, n2, n3⟩, n4⟩, rfl, ⟨bounds_i64 w0, bounds_i64 w1, bounds_i64 w2, bounds_i64 w3⟩, bounds_u64 w4⟩
set_option maxRecDepth 100000 in
theorem accounts_in {fuel len cap : Nat} {a : Option Addr} {x : DataW H × List MemPlace} (hf : DataW.trod enc Try.prog w base spare held fuel 43 [.slice a len cap] = some x) : ∃ l : List AccD, l.length = len ∧ AccIn w (.slice a len cap) l ∧ ∀ x ∈ l, I64 x.good :=
  st_in accC_len (by omega) Try.underlying43 (by kernel_rfl) _ (fun _ _ _ h => acc_in h) hf
set_option maxRecDepth 100000 in
theorem signs_in {fuel len cap : Nat} {a : Option Addr} {x : DataW H × List MemPlace} (hf : DataW.trod enc Try.prog w base spare held fuel 65 [.slice a len cap] = some x) : ∃ l : List SigD, l.length = len ∧ SigIn w (.slice a len cap) l ∧ ∀ x ∈ l, x.e.fits ∧ U64 x.sign :=
  st_in sigC_len (by omega) Try.underlying65 (by kernel_rfl) _ (fun _ _ _ h => sig_in h) hf
end
end Go.Proofs.Ytekplfbfkfiabaa
