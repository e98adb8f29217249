import Derived.Test.YtekplfbfkfiabaaBase
import Derived.OpenShut
import Derived.Test.YtekplfbfkfiabaaBkLed
import Derived.Test.YtekplfbfkfiabaaBkPost2
import Derived.Lib.SmallJoins
import Derived.Deep.Grids
import Derived.SizedLaws
import Derived.Test.YtekplfbfkfiabaaKept0
import Derived.Deep.Strs
/- What a slice of integers that came in reads as. -/
namespace Go.Proofs.Ytekplfbfkfiabaa
open Go.RowKit
set_option linter.unusedVariables false

theorem ints_in (w : World) (a : Option Addr) (len cap : Nat) (zs : List Int)
    (h : (a = none ∧ len = 0 ∧ cap = 0 ∧ zs = []) ∨
      ∃ x, a = some x ∧ len ≤ cap ∧ cap ≤ maxLen ∧ zs.length = cap ∧ (∀ i, i < zs.length → w.cell? (x.add i) = some (.int .i64 (zs.getD i 0))) ∧ ∀ n ∈ zs, (Lit.int .i64 n).wf = true) :
    ∃ xs : List Int, xs.length = len ∧ Ints w (.slice a len cap) xs ∧ ∀ n ∈ xs, I64 n := by
  rcases h with ⟨rfl, rfl, rfl, rfl⟩ | ⟨x, rfl, hl, hm, hz, hc, hw⟩
  · exact ⟨[], rfl, Sl.nil w, fun n hn => by cases hn⟩
  · have hlen : (zs.take len).length = len := by rw [List.length_take]; omega
    refine ⟨zs.take len, hlen, ?_, fun n hn => ?_⟩
    · unfold maxLen at hm
      refine ⟨by rw [List.length_map, hlen]; omega, some x, cap, by rw [List.length_map, hlen], fun h => (by cases h), fun h0 => ?_⟩
      have h0' : 0 < len := by rw [List.length_map, hlen] at h0; exact h0
      have hx := hc 0 (by omega)
      obtain ⟨b, o, sp⟩ := x
      have hsp : sp = none := by
        unfold Addr.add World.cell? at hx
        simp only [if_true] at hx
        cases hh : w.heap[b]? with
        | none => rw [hh] at hx; cases hx
        | some ob =>
          rw [hh] at hx
          cases ob <;> simp at hx
          cases sp with
          | none => rfl
          | some _ => simp at hx
      subst hsp
      refine ⟨b, o, rfl, fun i u hu => ?_⟩
      rw [List.getElem?_map] at hu
      obtain ⟨y, hy, rfl⟩ := Option.map_eq_some_iff.1 hu
      obtain ⟨hi, rfl⟩ := List.getElem?_eq_some_iff.1 hy
      have hi' : i < zs.length := by rw [hlen] at hi; omega
      have h1 := hc i hi'
      have hadd : (⟨b, o, none⟩ : Addr).add i = ⟨b, o + i, none⟩ := by unfold Addr.add; split <;> simp_all
      rw [hadd] at h1
      rw [h1, List.getElem_take]
      simp [List.getD, hi']
    · exact bounds_i64 (hw n (List.mem_of_mem_take hn))
end Go.Proofs.Ytekplfbfkfiabaa

/- What accounts and signed entries that came in read as. -/
namespace Go.Proofs.Ytekplfbfkfiabaa
open Go.RowKit Go.ChangeShapes
set_option linter.unusedVariables false

theorem spotB_none {w : World} {a : Addr} {v : Value} (h : w.cell? a = some v) : a.spot = none := by
  unfold World.cell? at h
  split at h
  · split at h
    · cases h
    · rename_i hs; simpa using hs
  · cases h
theorem addB (b o m : Nat) : ((⟨b, o, none⟩ : Addr).add m) = ⟨b, o + m, none⟩ := by unfold Addr.add; split <;> simp_all
theorem addB_add (b o m j : Nat) : (((⟨b, o, none⟩ : Addr).add m).add j) = ⟨b, o + m + j, none⟩ := by rw [addB, addB]
/-- A slice of structs that came in. -/
theorem st_in {α : Type} [Inhabited α] {z : Nat} {f : α → List Value} {T e : TypeId} (hz : ∀ x, (f x).length = z) (hz0 : 0 < z) (ht : Try.prog.underlying T = some (.slice e)) (hce : Try.prog.cellsOf e = z) (G : α → Prop)
    {H : Type} {enc : TypeId × Value → H} {w : World} {base : Nat} {spare : Nat → Bool} {held : Bool}
    (each : ∀ n cs y, DataW.trod enc Try.prog w base spare held n e cs = some y → ∃ x : α, cs = f x ∧ G x)
    {fuel len cap : Nat} {a : Option Addr} {x : DataW H × List MemPlace} (hf : DataW.trod enc Try.prog w base spare held fuel T [.slice a len cap] = some x) :
    ∃ l : List α, l.length = len ∧ StIn z f w (.slice a len cap) l ∧ ∀ x ∈ l, G x := by
  rcases DataW.trod_slice ht hf with ⟨hcs, _⟩ | ⟨a, len', cap', elems, rest, n, _, hcs, _, hb, hl, hm, hlen, hel, hsp, hns⟩
  · simp at hcs
    obtain ⟨rfl, rfl, rfl⟩ := hcs
    exact ⟨[], rfl, StIn.nil w, fun x hx => by cases hx⟩
  · simp at hcs
    obtain ⟨rfl, rfl, rfl⟩ := hcs
    unfold maxLen at hm
    have one : ∀ i, i < len → ∃ x : α, (∀ j, j < z → w.cell? ((a.add (i * z)).add j) = (f x)[j]?) ∧ G x := fun i hi => by
      have h1 := hel i hi
      rw [hce, List.getElem?_eq_getElem (by omega), Option.bind_eq_some_iff] at h1
      obtain ⟨cs, h2, h3⟩ := h1
      obtain ⟨x, rfl, hg⟩ := each _ _ _ h3
      exact ⟨x, (World.cells?_some h2).2.2, hg⟩
    have hchoose : ∃ g : Nat → α, ∀ i, i < len → (∀ j, j < z → w.cell? ((a.add (i * z)).add j) = (f (g i))[j]?) ∧ G (g i) :=
      ⟨fun i => if h : i < len then Classical.choose (one i h) else default, fun i hi => by dsimp only; rw [dif_pos hi]; exact Classical.choose_spec (one i hi)⟩
    obtain ⟨g, hg0⟩ := hchoose
    refine ⟨(List.range len).map g, by simp, ⟨by simp; omega, some a, cap, by simp, fun h => (by cases h), fun h0 => ?_⟩, fun x hx => ?_⟩
    · have h0' : 0 < len := by simpa using h0
      obtain ⟨b, o, sp⟩ := a
      have h00 := (hg0 0 h0').1 0 hz0
      have e0 : (((⟨b, o, sp⟩ : Addr).add (0 * z)).add 0) = ⟨b, o, sp⟩ := by unfold Addr.add; simp
      rw [e0] at h00
      obtain ⟨v0, hv0⟩ : ∃ v, (f (g 0))[0]? = some v := ⟨_, List.getElem?_eq_getElem (by rw [hz]; exact hz0)⟩
      rw [hv0] at h00
      have hs : sp = none := spotB_none h00
      subst hs
      refine ⟨b, o, rfl, fun i hi j hj => ?_⟩
      have hi' : i < len := by simpa using hi
      have h1 := (hg0 i hi').1 j hj
      rw [addB_add] at h1
      rw [h1]
      simp
    · obtain ⟨i, hi, rfl⟩ := List.mem_map.1 hx
      exact (hg0 i (by simpa using hi)).2
section
variable {H : Type} {enc : TypeId × Value → H} {w : World} {base : Nat} {spare : Nat → Bool} {held : Bool}
set_option maxRecDepth 100000 in
theorem acc_in {n : Nat} {cs : List Value} {y : DataW H × List MemPlace} (h : DataW.trod enc Try.prog w base spare held n 52 cs = some y) : ∃ x : AccD, cs = accC x ∧ I64 x.good := by
  obtain ⟨y0, y1, m, _, hl, t0, t1⟩ := trod_struct2 Try.underlying52 h
  have hc : Try.prog.cellsOf 52 = 2 := by kernel_rfl
  have hc1 : Try.prog.cellsOf 3 = 1 := by kernel_rfl
  have hcb : Try.prog.cellsOf 4 = 1 := by kernel_rfl
  rw [hc] at hl
  match cs, hl with
  | [c0, c1], _ =>
    obtain ⟨n0, e0, _, w0⟩ := DataW.trod_int Try.underlying3 t0
    obtain ⟨n1, e1, _⟩ := DataW.trod_bool Try.underlying4 t1
    rw [hc1] at e0
    rw [hcb] at e1
    simp at e0 e1
    subst e0 e1
    exact ⟨⟨n0, n1⟩, rfl, bounds_i64 w0⟩
set_option maxRecDepth 100000 in
theorem sig_in {n : Nat} {cs : List Value} {y : DataW H × List MemPlace} (h : DataW.trod enc Try.prog w base spare held n 145 cs = some y) : ∃ x : SigD, cs = sigC x ∧ x.e.fits ∧ U64 x.sign := by
  obtain ⟨y0, y1, m, _, hl, t0, t1⟩ := trod_struct2 Try.underlying145 h
  have hc : Try.prog.cellsOf 145 = 5 := by kernel_rfl
  have hc4 : Try.prog.cellsOf 57 = 4 := by kernel_rfl
  have hc1 : Try.prog.cellsOf 3 = 1 := by kernel_rfl
  have hcu : Try.prog.cellsOf 42 = 1 := by kernel_rfl
  rw [hc] at hl
  match cs, hl with
  | [c0, c1, c2, c3, c4], _ =>
    obtain ⟨z0, z1, z2, z3, m2, _, _, s0, s1, s2, s3⟩ := Go.Joins.trod_struct4 Try.underlying57 t0
    obtain ⟨n0, e0, _, w0⟩ := DataW.trod_int Try.underlying3 s0
    obtain ⟨n1, e1, _, w1⟩ := DataW.trod_int Try.underlying3 s1
    obtain ⟨n2, e2, _, w2⟩ := DataW.trod_int Try.underlying3 s2
    obtain ⟨n3, e3, _, w3⟩ := DataW.trod_int Try.underlying3 s3
    obtain ⟨n4, e4, _, w4⟩ := DataW.trod_int Try.underlying42 t1
    rw [hc1] at e0 e1 e2 e3
    rw [hc4] at e0 e1 e2 e3
    rw [hcu] at e4
    simp at e0 e1 e2 e3 e4
    subst e0 e1 e2 e3 e4
    exact ⟨⟨⟨n0, n1, n2, n3⟩, n4⟩, rfl, ⟨bounds_i64 w0, bounds_i64 w1, bounds_i64 w2, bounds_i64 w3⟩, bounds_u64 w4⟩
set_option maxRecDepth 100000 in
theorem accounts_in {fuel len cap : Nat} {a : Option Addr} {x : DataW H × List MemPlace} (hf : DataW.trod enc Try.prog w base spare held fuel 43 [.slice a len cap] = some x) : ∃ l : List AccD, l.length = len ∧ AccIn w (.slice a len cap) l ∧ ∀ x ∈ l, I64 x.good :=
  st_in accC_len (by omega) Try.underlying43 (by kernel_rfl) _ (fun _ _ _ h => acc_in h) hf
set_option maxRecDepth 100000 in
theorem signs_in {fuel len cap : Nat} {a : Option Addr} {x : DataW H × List MemPlace} (hf : DataW.trod enc Try.prog w base spare held fuel 65 [.slice a len cap] = some x) : ∃ l : List SigD, l.length = len ∧ SigIn w (.slice a len cap) l ∧ ∀ x ∈ l, x.e.fits ∧ U64 x.sign :=
  st_in sigC_len (by omega) Try.underlying65 (by kernel_rfl) _ (fun _ _ _ h => sig_in h) hf
end
end Go.Proofs.Ytekplfbfkfiabaa

/- What deeds and numbers that came in read as; how long what came in can be. -/
namespace Go.Proofs.Ytekplfbfkfiabaa
open Go.RowKit Go.ChangeShapes
set_option linter.unusedVariables false

section
variable {H : Type} {enc : TypeId × Value → H} {w : World} {base : Nat} {held : Bool}
theorem nums_of {fuel len cap : Nat} {a : Option Addr} {x : DataW H × List MemPlace} (hf : DataW.trod enc Try.prog w base (fun _ => true) held fuel 22 [.slice a len cap] = some x) : ∃ xs : List Int, Ints w (.slice a len cap) xs ∧ ∀ n ∈ xs, I64 n := by
  have key : ∃ zs : List Int, (a = none ∧ len = 0 ∧ cap = 0 ∧ zs = []) ∨ ∃ x, a = some x ∧ len ≤ cap ∧ cap ≤ maxLen ∧ zs.length = cap ∧ (∀ i, i < zs.length → w.cell? (x.add i) = some (.int .i64 (zs.getD i 0))) ∧ ∀ n ∈ zs, (Lit.int .i64 n).wf = true := by
    rcases open_ints Try.underlying22 Try.underlying3 (by kernel_rfl) hf with ⟨hcs, _⟩ | ⟨x, l, c, zs, hcs, _, hl, hm, hz, _, hcell, hwz⟩
    · simp at hcs
      obtain ⟨rfl, rfl, rfl⟩ := hcs
      exact ⟨[], .inl ⟨rfl, rfl, rfl, rfl⟩⟩
    · simp at hcs
      obtain ⟨rfl, rfl, rfl⟩ := hcs
      exact ⟨zs, .inr ⟨_, rfl, hl, hm, by simpa using hz, hcell, hwz⟩⟩
  obtain ⟨zs, hzs⟩ := key
  obtain ⟨xs, _, h1, h2⟩ := ints_in w a len cap zs hzs
  exact ⟨xs, h1, h2⟩
set_option maxRecDepth 100000 in
theorem deed_in {n : Nat} {cs : List Value} {y : DataW H × List MemPlace} (h : DataW.trod enc Try.prog w base (fun _ => true) held n 59 cs = some y) : ∃ x : DeedD, cs = deedC x ∧ (Ints w x.v x.cnt ∧ x.e.fits ∧ ∀ c ∈ x.cnt, I64 c) := by
  have hc : Try.prog.cellsOf 59 = 6 := by kernel_rfl
  have hc4 : Try.prog.cellsOf 57 = 4 := by kernel_rfl
  have hc1 : Try.prog.cellsOf 3 = 1 := by kernel_rfl
  have hcb : Try.prog.cellsOf 4 = 1 := by kernel_rfl
  have hcs : Try.prog.cellsOf 22 = 1 := by kernel_rfl
  obtain ⟨y0, y1, y2, m, _, hl, t0, t1, t2⟩ := Go.Deep.trod_struct3 Try.underlying59 h
  rw [hc] at hl
  rw [hcb] at t0
  rw [hc4] at t1
  rw [hcs] at t2
  match cs, hl with
  | [c0, c1, c2, c3, c4, c5], _ =>
    obtain ⟨nb, eb, _⟩ := DataW.trod_bool Try.underlying4 (by simpa using t0)
    obtain ⟨z0, z1, z2, z3, m2, _, _, s0, s1, s2, s3⟩ := Go.Joins.trod_struct4 Try.underlying57 (by simpa using t1)
    obtain ⟨n0, e0, _, w0⟩ := DataW.trod_int Try.underlying3 s0
    obtain ⟨n1, e1, _, w1⟩ := DataW.trod_int Try.underlying3 s1
    obtain ⟨n2, e2, _, w2⟩ := DataW.trod_int Try.underlying3 s2
    obtain ⟨n3, e3, _, w3⟩ := DataW.trod_int Try.underlying3 s3
    rw [hc1] at e0 e1 e2 e3
    simp at e0 e1 e2 e3 eb t2
    subst e0 e1 e2 e3 eb
    obtain ⟨a, l, c, e5⟩ := Go.Joins.slice_form Try.underlying22 t2
    simp at e5
    subst e5
    obtain ⟨ns, h5, h6⟩ := nums_of t2
    exact ⟨⟨nb, ⟨n0, n1, n2, n3⟩, .slice a l c, ns⟩, rfl, h5, ⟨bounds_i64 w0, bounds_i64 w1, bounds_i64 w2, bounds_i64 w3⟩, h6⟩
set_option maxRecDepth 100000 in
theorem deeds_in {fuel len cap : Nat} {a : Option Addr} {x : DataW H × List MemPlace} (hf : DataW.trod enc Try.prog w base (fun _ => true) held fuel 44 [.slice a len cap] = some x) : ∃ l : List DeedD, DeedIn w (.slice a len cap) l := by
  obtain ⟨l, _, h1, h2⟩ := st_in deedC_len (by omega) Try.underlying44 (by kernel_rfl) (fun x : DeedD => Ints w x.v x.cnt ∧ x.e.fits ∧ ∀ c ∈ x.cnt, I64 c) (fun _ _ _ h => deed_in h) hf
  exact ⟨l, h1, h2⟩
end
/-- How long the datum of a slice is. -/
def LenD {H : Type} (d : DataW H) (n : Nat) : Prop := n = 0 ∨ ∃ elems spare, d = .slice elems spare ∧ elems.length = n
theorem slice_len_in {H : Type} {enc : TypeId × Value → H} {P : Program} {w : World} {base : Nat} {spare : Nat → Bool} {held : Bool} {fuel len cap : Nat} {t e : TypeId} {a : Option Addr} {x : DataW H × List MemPlace} (ht : P.underlying t = some (.slice e))
    (hf : DataW.trod enc P w base spare held fuel t [.slice a len cap] = some x) : LenD x.1 len := by
  rcases DataW.trod_slice ht hf with ⟨hcs, _⟩ | ⟨a', len', cap', elems, rest, n, _, hcs, hx, _, _, _, hlen, _⟩
  · simp at hcs
    exact .inl hcs.2.1
  · simp at hcs
    obtain ⟨_, rfl, _⟩ := hcs
    exact .inr ⟨_, _, by rw [hx], by simpa using hlen⟩
theorem slice_reach {H : Type} {P : Program} {ts : List TypeId} {ds : List (DataW H)} (hsz : (DataW.weightsEach P ts ds).all (· ≤ reachBytes) = true) {j n : Nat} {t e : TypeId} {d : DataW H} (ht : ts[j]? = some t) (hd : ds[j]? = some d)
    (hs : P.underlying t = some (.slice e)) (hl : LenD d n) : n * P.bytesOf e ≤ reachBytes := by
  rcases hl with rfl | ⟨elems, spare, rfl, rfl⟩
  · simp
  · have h2 : (elems.length + spare.length) * P.bytesOf e ∈ DataW.weightsEach P ts ds := DataW.weights_mem_each ht hd _ (by simp [DataW.weights, hs])
    have h3 := List.all_eq_true.1 hsz _ h2
    have h4 : (elems.length + spare.length) * P.bytesOf e ≤ reachBytes := by simpa using h3
    exact Nat.le_trans (Nat.mul_le_mul_right _ (Nat.le_add_right _ _)) h4
set_option maxRecDepth 100000 in
theorem accounts_reach {H : Type} {ts : List TypeId} {ds : List (DataW H)} (hsz : (DataW.weightsEach Try.prog ts ds).all (· ≤ reachBytes) = true) {j n : Nat} {d : DataW H} (ht : ts[j]? = some 43) (hd : ds[j]? = some d) (hl : LenD d n) : n * 16 ≤ 140737488355328 := by
  have h := slice_reach hsz ht hd Try.underlying43 hl
  have hb : Try.prog.bytesOf 52 = 16 := by kernel_rfl
  rw [hb] at h
  unfold reachBytes at h
  omega
end Go.Proofs.Ytekplfbfkfiabaa
