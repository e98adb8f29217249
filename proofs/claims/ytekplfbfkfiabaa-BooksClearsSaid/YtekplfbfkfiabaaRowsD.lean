/- What deeds and numbers that came in read as; how long what came in can be. -/
import Derived.Test.YtekplfbfkfiabaaRowsB
import Derived.Test.YtekplfbfkfiabaaRows1
import Derived.Test.YtekplfbfkfiabaaKept0
import Derived.Deep.Strs
namespace Go.Proofs.Ytekplfbfkfiabaa
open Go.RowKit Go.ChangeShapes
set_option linter.unusedVariables false

section
variable {H : Type} {enc : TypeId × Value → H} {w : World} {base : Nat} {held : Bool}
theorem nums_of {fuel len cap : Nat} {a : Option Addr} {x : DataW H × List MemPlace} (hf : DataW.trod enc Try.prog w base (fun _ => true) held fuel 22 [.slice a len cap] = some x) : ∃ xs : List Int, Ints w (.slice a len cap) xs ∧ ∀ n ∈ xs, I64 n := by
  have key : ∃ zs : List Int, (a = none ∧ len = 0 ∧ cap = 0 ∧ zs = []) ∨ ∃ x, a = some x ∧ len ≤ cap ∧ cap ≤ maxLen ∧ zs.length = cap ∧ (∀ i, i < zs.length → w.cell? (x.add i) = some (.int .i64 (zs.getD i 0))) ∧ ∀ n ∈ zs, (Lit.int .i64 n).wf = true := by
    rcases open_ints Try.underlying22 Try.underlying3 (by kernel_rfl) hf with ⟨hcs, _⟩ | ⟨x, l, c, zs, hcs, _, hl, hm, hz, _, hcell, hwz⟩
    · simp at hcs
      obtain ⟨rfl, rfl, rfl⟩ := hcs
      exact ⟨[], .inl ⟨rfl, rfl, rfl, rfl⟩⟩
    · simp at hcs
      obtain ⟨rfl, rfl, rfl⟩ := hcs
      exact ⟨zs, .inr ⟨_, rfl, hl, hm, by simpa using hz, hcell, hwz⟩⟩
  obtain ⟨zs, hzs⟩ := key
  obtain ⟨xs, _, h1, h2⟩ := ints_in w a len cap zs hzs
  exact ⟨xs, h1, h2⟩
set_option maxRecDepth 100000 in
theorem deed_in {n : Nat} {cs : List Value} {y : DataW H × List MemPlace} (h : DataW.trod enc Try.prog w base (fun _ => true) held n 59 cs = some y) : ∃ x : DeedD, cs = deedC x ∧ (Ints w x.v x.cnt ∧ x.e.fits ∧ ∀ c ∈ x.cnt, I64 c) := by
  have hc : Try.prog.cellsOf 59 = 6 := by kernel_rfl
  have hc4 : Try.prog.cellsOf 57 = 4 := by kernel_rfl
  have hc1 : Try.prog.cellsOf 3 = 1 := by kernel_rfl
  have hcb : Try.prog.cellsOf 4 = 1 := by kernel_rfl
  have hcs : Try.prog.cellsOf 22 = 1 := by kernel_rfl
  obtain ⟨y0, y1, y2, m, _, hl, t0, t1, t2⟩ := Go.Deep.trod_struct3 Try.underlying59 h
  rw [hc] at hl
  rw [hcb] at t0
  rw [hc4] at t1
  rw [hcs] at t2
  match cs, hl with
  | [c0, c1, c2, c3, c4, c5], _ =>
    obtain ⟨nb, eb, _⟩ := DataW.trod_bool Try.underlying4 (by simpa using t0)
    obtain ⟨z0, z1, z2, z3, m2, _, _, s0, s1, s2, s3⟩ := Go.Joins.trod_struct4 Try.underlying57 (by simpa using t1)
    obtain ⟨n0, e0, _, w0⟩ := DataW.trod_int Try.underlying3 s0
    obtain ⟨n1, e1, _, w1⟩ := DataW.trod_int Try.underlying3 s1
    obtain ⟨n2, e2, _, w2⟩ := DataW.trod_int Try.underlying3 s2
    obtain ⟨n3, e3, _, w3⟩ := DataW.trod_int Try.underlying3 s3
    rw [hc1] at e0 e1 e2 e3
    simp at e0 e1 e2 e3 eb t2
    subst e0 e1 e2 e3 eb
    obtain ⟨a, l, c, e5⟩ := Go.Joins.slice_form Try.underlying22 t2
    simp at e5
    subst e5
    obtain ⟨ns, h5, h6⟩ := nums_of t2
    exact ⟨⟨nb, ⟨n0, n1, n2, n3⟩, .slice a l c, ns⟩, rfl, h5, ⟨bounds_i64 w0, bounds_i64 w1, bounds_i64 w2, bounds_i64 w3⟩, h6⟩
set_option maxRecDepth 100000 in
theorem deeds_in {fuel len cap : Nat} {a : Option Addr} {x : DataW H × List MemPlace} (hf : DataW.trod enc Try.prog w base (fun _ => true) held fuel 44 [.slice a len cap] = some x) : ∃ l : List DeedD, DeedIn w (.slice a len cap) l := by
  obtain ⟨l, _, h1, h2⟩ := st_in deedC_len (by omega) Try.underlying44 (by kernel_rfl) (fun x : DeedD => Ints w x.v x.cnt ∧ x.e.fits ∧ ∀ c ∈ x.cnt, I64 c) (fun _ _ _ h => deed_in h) hf
  exact ⟨l, h1, h2⟩
end
/-- How long the datum of a slice is. -/
def LenD {H : Type} (d : DataW H) (n : Nat) : Prop := n = 0 ∨ ∃ elems spare, d = .slice elems spare ∧ elems.length = n
theorem slice_len_in {H : Type} {enc : TypeId × Value → H} {P : Program} {w : World} {base : Nat} {spare : Nat → Bool} {held : Bool} {fuel len cap : Nat} {t e : TypeId} {a : Option Addr} {x : DataW H × List MemPlace} (ht : P.underlying t = some (.slice e))
    (hf : DataW.trod enc P w base spare held fuel t [.slice a len cap] = some x) : LenD x.1 len := by
  rcases DataW.trod_slice ht hf with ⟨hcs, _⟩ | ⟨a', len', cap', elems, rest, n, _, hcs, hx, _, _, _, hlen, _⟩
  · simp at hcs
    exact .inl hcs.2.1
  · simp at hcs
    obtain ⟨_, rfl, _⟩ := hcs
    exact .inr ⟨_, _, by rw [hx], by simpa using hlen⟩
theorem slice_reach {H : Type} {P : Program} {ts : List TypeId} {ds : List (DataW H)} (hsz : (DataW.weightsEach P ts ds).all (· ≤ reachBytes) = true) {j n : Nat} {t e : TypeId} {d : DataW H} (ht : ts[j]? = some t) (hd : ds[j]? = some d)
    (hs : P.underlying t = some (.slice e)) (hl : LenD d n) : n * P.bytesOf e ≤ reachBytes := by
  rcases hl with rfl | ⟨elems, spare, rfl, rfl⟩
  · simp
  · have h2 : (elems.length + spare.length) * P.bytesOf e ∈ DataW.weightsEach P ts ds := DataW.weights_mem_each ht hd _ (by simp [DataW.weights, hs])
    have h3 := List.all_eq_true.1 hsz _ h2
    have h4 : (elems.length + spare.length) * P.bytesOf e ≤ reachBytes := by simpa using h3
    exact Nat.le_trans (Nat.mul_le_mul_right _ (Nat.le_add_right _ _)) h4
set_option maxRecDepth 100000 in
theorem accounts_reach {H : Type} {ts : List TypeId} {ds : List (DataW H)} (hsz : (DataW.weightsEach Try.prog ts ds).all (· ≤ reachBytes) = true) {j n : Nat} {d : DataW H} (ht : ts[j]? = some 43) (hd : ds[j]? = some d) (hl : LenD d n) : n * 16 ≤ 140737488355328 := by
  have h := slice_reach hsz ht hd Try.underlying43 hl
  have hb : Try.prog.bytesOf 52 = 16 := by kernel_rfl
  rw [hb] at h
  unfold reachBytes at h
  omega
end Go.Proofs.Ytekplfbfkfiabaa
