import Derived.Test.YtekplfbfkfiabaaBkAgr
import Derived.Test.YtekplfbfkfiabaaBkCopy
import Derived.Test.YtekplfbfkfiabaaRfClose
import Derived.Test.YtekplfbfkfiabaaBkPlCo
/- A ledger of the program beside the reference's, in memory. -/
namespace Go.Proofs.Ytekplfbfkfiabaa
open Go.RowKit
set_option linter.unusedVariables false
set_option linter.unusedSimpArgs false

theorem closeF_nn (day : Int) : ∀ (r : List (Nat × Int)) (d : LedD) (ds : List Int), NN d → NN (closeF day d ds r).1
  | [], d, ds, h => h
  | (k, c) :: r, d, ds, h => by
    unfold closeF
    split
    · exact closeF_nn day r d _ h
    · split
      · exact h
      · rename_i h2
        exact closeF_nn day r _ _ (h.post (Decidable.not_not.1 h2))
def rCells (d : LedD) (va ve : Value) : Array Value := #[.int .u64 d.key, va, ve, .int .i64 d.closed]
/-- A pair: the program's ledger at lb, the reference's in block rb. -/
structure KA (W : World) (l : List AccD) (B lb : Nat) (d : LedD) (m : LMem) (rb : Nat) (va ve : Value) : Prop where
  led : LSt W B lb d m
  ok : LedOk d
  nn : NN d
  acc : d.acc = l
  ref : Blk W rb (rCells d va ve) 81
  sig : SigIn W ve d.ents
  apart : 0 < d.ents.length → ∀ b, ve.ownBlock = some b → b ≠ lb ∧ m.ve.ownBlock ≠ some b ∧ b ≠ rb
  rbl : rb ≠ lb ∧ rb ≠ m.ab ∧ m.va.ownBlock ≠ some rb ∧ m.ve.ownBlock ≠ some rb
/-- The blocks of a pair. -/
def KT (lb : Nat) (d : LedD) (m : LMem) (rb : Nat) (ve : Value) (b : Nat) : Prop :=
  b = lb ∨ b = m.ab ∨ m.va.ownBlock = some b ∨ m.ve.ownBlock = some b ∨ b = rb ∨ (0 < d.ents.length ∧ ve.ownBlock = some b)
section
variable {W W' : World} {l : List AccD} {B lb rb : Nat} {d : LedD} {m : LMem} {va ve : Value}
theorem KA.only {S : Nat → Prop} (h : KA W l B lb d m rb va ve) (k : Only S W W') (hs : ∀ b, S b → ¬ KT lb d m rb ve b) : KA W' l B lb d m rb va ve := by
  refine ⟨h.led.only k (fun e => hs _ e (.inl rfl)) (fun e => hs _ e (.inr (.inl rfl))) (fun b hb e => hs b e (.inr (.inr (.inl hb)))) (fun b hb e => hs b e (.inr (.inr (.inr (.inl hb))))), h.ok, h.nn, h.acc, h.ref.only k (fun e => hs _ e (.inr (.inr (.inr (.inr (.inl rfl)))))), ?_, h.apart, h.rbl⟩
  exact SigIn.only0 h.sig k (fun h0 b hb e => hs b e (.inr (.inr (.inr (.inr (.inr ⟨h0, hb⟩))))))
theorem KA.ext (h : KA W l B lb d m rb va ve) (k : Ext W W') : KA W' l B lb d m rb va ve := h.only (S := fun _ => False) (Only.of_ext k) (fun _ h => h.elim)
theorem KA.lt (h : KA W l B lb d m rb va ve) : ∀ b, KT lb d m rb ve b → b < W.heap.size := fun b hb => by
  rcases hb with rfl | rfl | hb | hb | rfl | ⟨h0, hb⟩
  · exact h.led.led.lt
  · exact h.led.acc.lt
  · exact h.led.va_lt h.ok b hb
  · exact (h.led.ents.lt b hb).2
  · exact h.ref.lt
  · exact h.sig.own_lt h0 b hb
theorem KA.good (h : KA W l B lb d m rb va ve) : ∀ i : Nat, i < d.n → 1 ≤ (d.at' i).good ∧ (d.at' i).good ≤ 4 := fun i hi => good_of h.ok hi
theorem KA.c0 (h : KA W l B lb d m rb va ve) : W.cell? ⟨rb, 0, none⟩ = some (.int .u64 d.key) := h.ref.cell 0
theorem KA.c1 (h : KA W l B lb d m rb va ve) : W.cell? ⟨rb, 1, none⟩ = some va := h.ref.cell 1
theorem KA.c2 (h : KA W l B lb d m rb va ve) : W.cell? ⟨rb, 2, none⟩ = some ve := h.ref.cell 2
theorem KA.c3 (h : KA W l B lb d m rb va ve) : W.cell? ⟨rb, 3, none⟩ = some (.int .i64 d.closed) := h.ref.cell 3
/-- The pair behind a step of both. -/
theorem KA.step {W1 W2 : World} {d2 : LedD} {m2 : LMem} {ve2 : Value} (h : KA W l B lb d m rb va ve) (hl : LSt W2 B lb d2 m2) (hok : LedOk d2) (hnn : NN d2) (hacc : d2.acc = d.acc)
    (hab : m2.ab = m.ab) (hva : m2.va = m.va) (hf : FreshOr W m.ve m2.ve) (hr : Blk W2 rb (rCells d2 va ve2) 81) (hs : SigIn W2 ve2 d2.ents)
    (hap : 0 < d2.ents.length → ∀ b, ve2.ownBlock = some b → b ≠ lb ∧ m2.ve.ownBlock ≠ some b ∧ b ≠ rb) : KA W2 l B lb d2 m2 rb va ve2 := by
  refine ⟨hl, hok, hnn, hacc.trans h.acc, hr, hs, hap, h.rbl.1, by rw [hab]; exact h.rbl.2.1, by rw [hva]; exact h.rbl.2.2.1, fun e => ?_⟩
  rcases hf with hf | ⟨g, hg, hl2⟩
  · exact h.rbl.2.2.2 (hf ▸ e)
  · rw [hg] at e; cases e
    have := h.ref.lt
    omega
end
/-- What may be written is apart from another pair. -/
def KF (lb : Nat) (m : LMem) (rb : Nat) (lb2 : Nat) (d2 : LedD) (m2 : LMem) (rb2 : Nat) (ve2 : Value) : Prop :=
  ¬ KT lb2 d2 m2 rb2 ve2 lb ∧ ¬ KT lb2 d2 m2 rb2 ve2 rb ∧ ∀ b, m.ve.ownBlock = some b → ¬ KT lb2 d2 m2 rb2 ve2 b
theorem KF.step {W : World} {l : List AccD} {B lb rb lb2 rb2 : Nat} {m m' m2 : LMem} {d2 : LedD} {va2 ve2 : Value} (h : KF lb m rb lb2 d2 m2 rb2 ve2) (k : KA W l B lb2 d2 m2 rb2 va2 ve2) (hf : FreshOr W m.ve m'.ve) : KF lb m' rb lb2 d2 m2 rb2 ve2 := by
  refine ⟨h.1, h.2.1, fun b hb hk => ?_⟩
  rcases hf with hf | ⟨g, hg, hl⟩
  · exact h.2.2 b (hf ▸ hb) hk
  · rw [hg] at hb; cases hb
    have := k.lt _ hk
    omega
/-- A copy beside the reference's ledger in another block. -/
theorem KA.copied {W W' : World} {l : List AccD} {B lb rb lb2 rb2 : Nat} {d : LedD} {m : LMem} {va ve v : Value} (h : KA W l B lb d m rb va ve) (hB : W.heap.size ≤ lb2) (hr2 : rb2 < W.heap.size) (hn : ¬ KT lb d m rb ve rb2)
    (hl : LSt W' W.heap.size lb2 d { m with ve := v }) (hv : ∀ b, v.ownBlock = some b → W.heap.size ≤ b) (hr : Blk W' rb2 (rCells d va ve) 81) (hs : SigIn W' ve d.ents) :
    KA W' l W.heap.size lb2 d { m with ve := v } rb2 va ve ∧ KF lb m rb lb2 d { m with ve := v } rb2 ve := by
  have hlt := h.lt
  have key : ∀ b, b < W.heap.size → (b = lb ∨ b = rb ∨ m.ve.ownBlock = some b) → ¬ KT lb2 d { m with ve := v } rb2 ve b := fun b hb hc hk => by
    rcases hk with rfl | hk | hk | hk | rfl | ⟨h0, hk⟩
    · omega
    · have hk2 : b = m.ab := hk
      rcases hc with rfl | rfl | hc
      · exact h.led.nab hk2.symm
      · exact h.rbl.2.1 hk2
      · exact (h.led.nve b hc).2.1 hk2
    · have hk2 : m.va.ownBlock = some b := hk
      rcases hc with rfl | rfl | hc
      · exact h.led.nva b hk2 rfl
      · exact h.rbl.2.2.1 hk2
      · exact (h.led.nve b hc).2.2 hk2
    · have := hv b hk
      omega
    · refine hn ?_
      rcases hc with rfl | rfl | hc
      · exact .inl rfl
      · exact .inr (.inr (.inr (.inr (.inl rfl))))
      · exact .inr (.inr (.inr (.inl hc)))
    · have ha := h.apart h0 b hk
      rcases hc with rfl | rfl | hc
      · exact ha.1 rfl
      · exact ha.2.2 rfl
      · exact ha.2.1 hc
  refine ⟨⟨hl, h.ok, h.nn, h.acc, hr, hs, fun h0 b hb => ⟨?_, fun e => ?_, fun e => ?_⟩, by omega, fun e => hn (.inr (.inl e)), fun e => hn (.inr (.inr (.inl e))), fun e => ?_⟩, key lb h.led.led.lt (.inl rfl), key rb h.ref.lt (.inr (.inl rfl)), fun b hb => key b (h.led.ents.lt b hb).2 (.inr (.inr hb))⟩
  · have := hlt b (.inr (.inr (.inr (.inr (.inr ⟨h0, hb⟩)))))
    omega
  · have h1 := hv b e
    have := hlt b (.inr (.inr (.inr (.inr (.inr ⟨h0, hb⟩)))))
    omega
  · subst e
    exact hn (.inr (.inr (.inr (.inr (.inr ⟨h0, hb⟩)))))
  · have := hv _ e
    omega
end Go.Proofs.Ytekplfbfkfiabaa

/- What a deed does to a ledger of the program and to the reference's, told once for all its ways. -/
namespace Go.Proofs.Ytekplfbfkfiabaa
open Go.RowKit
set_option linter.unusedVariables false
set_option linter.unusedSimpArgs false

def postX (d : LedD) (x : EntD) : LedD := if postErr d x = 0 then postD d x else d
def closeD (d : LedD) (day : Int) (cs : List Int) : LedD := if closeErr d day cs = 0 then { (closeF day d [] (closeP d cs)).1 with closed := day } else d
def closeO (d : LedD) (day : Int) (cs : List Int) : List Int := if closeErr d day cs = 0 then (closeF day d [] (closeP d cs)).2.1 else []
theorem LedOk.postX {d : LedD} {x : EntD} (h : LedOk d) : LedOk (postX d x) := by
  unfold Go.Proofs.Ytekplfbfkfiabaa.postX
  split
  · rename_i e; exact h.post e
  · exact h
theorem NN.postX {d : LedD} {x : EntD} (h : NN d) : NN (postX d x) := by
  unfold Go.Proofs.Ytekplfbfkfiabaa.postX
  split
  · rename_i e; exact h.post e
  · exact h
theorem postX_acc (d : LedD) (x : EntD) : (postX d x).acc = d.acc := by
  unfold postX
  split <;> rfl
theorem closeErr_day {d : LedD} {day : Int} {cs : List Int} (h : closeErr d day cs = 0) : -1 ≤ day ∧ day ≤ 100000 := by
  unfold closeErr at h
  split at h
  · cases h
  · rename_i h2
    have h3 := Decidable.not_not.1 h2
    exact ⟨by omega, h3.2⟩
theorem LedOk.closeD {d : LedD} {day : Int} {cs : List Int} (h : LedOk d) : LedOk (closeD d day cs) := by
  unfold Go.Proofs.Ytekplfbfkfiabaa.closeD
  split
  · rename_i e; exact (closeF_ok day _ d [] h).1.closed (closeErr_day e)
  · exact h
theorem NN.closeD {d : LedD} {day : Int} {cs : List Int} (h : NN d) : NN (closeD d day cs) := by
  unfold Go.Proofs.Ytekplfbfkfiabaa.closeD
  split
  · exact (closeF_nn day _ d [] h).closed day
  · exact h
theorem closeD_acc {d : LedD} (h : LedOk d) (day : Int) (cs : List Int) : (closeD d day cs).acc = d.acc := by
  unfold closeD
  split
  · exact (closeF_ok day _ d [] h).2.1
  · rfl
theorem NN.last {d : LedD} (h : NN d) : ∀ i : Nat, i < d.n → (d.at' i).stock = true → 0 ≤ balA (i : Int) d.ents := fun i hi hs => by
  have := h d.ents.length i hi hs
  rwa [List.take_length] at this
theorem PostPost.uni {w w' : World} {B lb : Nat} {d : LedD} {m : LMem} {x : EntD} {e : Ending} (hl : LSt w B lb d m) (h : PostPost w B lb d m x e w') :
    ∃ v', e = .returned (.int .i64 (postErr d x)) ∧ LSt w' B lb (postX d x) { m with ve := v' } ∧ FreshOr w m.ve v' ∧ Only (fun k => k = lb ∨ m.ve.ownBlock = some k) w w' := by
  obtain ⟨h1, ⟨h2, h3⟩ | ⟨h2, v', h3, h4, h5⟩⟩ := h
  · refine ⟨m.ve, h1, ?_, .inl rfl, Only.of_ext h3⟩
    unfold postX
    rw [if_neg h2]
    exact hl.ext h3
  · refine ⟨v', h1, ?_, h4, h5⟩
    unfold postX
    rw [if_pos h2]
    exact h3
/-- A slice that was there, or a new one. -/
def OldOr (N : Nat) (d : LedD) (ve : Value) (d2 : LedD) (ve2 : Value) : Prop := 0 < d2.ents.length → ∀ b, ve2.ownBlock = some b → (0 < d.ents.length ∧ ve.ownBlock = some b) ∨ N ≤ b
theorem RPostPost.uni {w w' : World} {d : LedD} {va ve : Value} {x : EntD} {e : Ending} (hs : SigIn w ve d.ents) (h : RPostPost w d va ve x e w') :
    Ext w w' ∧ ∃ a c, e = .returned (.tuple #[rLed (postX d x) va (.slice a (postX d x).ents.length c), .int .i64 (postErr d x)]) ∧ SigIn w' (.slice a (postX d x).ents.length c) (postX d x).ents ∧ OldOr w.heap.size d ve (postX d x) (.slice a (postX d x).ents.length c) := by
  rcases h with ⟨h1, h2, h3⟩ | ⟨h1, v', h2, h3, h4, h5⟩
  · obtain ⟨a, c, rfl, _⟩ := hs.form
    refine ⟨h3, a, c, ?_⟩
    unfold postX
    rw [if_neg h1]
    exact ⟨h2, hs.ext h3, fun h0 b hb => .inl ⟨h0, hb⟩⟩
  · obtain ⟨a, c, rfl, _⟩ := h3.form
    refine ⟨h5, a, c, ?_⟩
    unfold postX
    rw [if_pos h1, h1]
    exact ⟨h2, h3, fun h0 b hb => .inr (h4 b hb)⟩
theorem ClosePost.uni {w w' : World} {B lb : Nat} {d : LedD} {m : LMem} {day : Int} {cs : List Int} {e : Ending} (h : ClosePost w B lb d m day cs e w') :
    ∃ a c m', e = .returned (.tuple #[.slice a (closeO d day cs).length c, .int .i64 (closeErr d day cs)]) ∧ Ints w' (.slice a (closeO d day cs).length c) (closeO d day cs) ∧ LSt w' B lb (closeD d day cs) m' ∧ m'.ab = m.ab ∧ m'.va = m.va ∧ FreshOr w m.ve m'.ve ∧ Only (fun k => k = lb ∨ m.ve.ownBlock = some k) w w' := by
  obtain ⟨v, m', he, hway, r⟩ := h
  rcases hway with ⟨h1, rfl, h3⟩ | ⟨h1, h2, h3⟩
  · refine ⟨none, 0, m', ?_⟩
    unfold closeO closeD
    rw [if_neg h1, if_neg h1]
    exact ⟨he, Sl.nil w', h3, r⟩
  · obtain ⟨a, c, rfl⟩ := row_form h2
    refine ⟨a, c, m', ?_⟩
    unfold closeO closeD
    rw [if_pos h1, if_pos h1]
    exact ⟨he, Sl.of_owns h2, h3, r⟩
theorem RClosePost.uni {w w' : World} {d : LedD} {va ve : Value} {day : Int} {cs : List Int} {e : Ending} (hs : SigIn w ve d.ents) (h : RClosePost w d va ve day cs e w') :
    Ext w w' ∧ ∃ a c a2 c2, e = .returned (.tuple #[rLed (closeD d day cs) va (.slice a (closeD d day cs).ents.length c), .slice a2 (closeO d day cs).length c2, .int .i64 (closeErr d day cs)]) ∧
      SigIn w' (.slice a (closeD d day cs).ents.length c) (closeD d day cs).ents ∧ Ints w' (.slice a2 (closeO d day cs).length c2) (closeO d day cs) ∧ OldOr w.heap.size d ve (closeD d day cs) (.slice a (closeD d day cs).ents.length c) := by
  obtain ⟨hx, ⟨h1, h2⟩ | ⟨h1, ve', v, h2, h3, h4, h5⟩⟩ := h
  · obtain ⟨a, c, rfl, _⟩ := hs.form
    refine ⟨hx, a, c, none, 0, ?_⟩
    unfold closeO closeD
    rw [if_neg h1, if_neg h1]
    exact ⟨h2, hs.ext hx, Sl.nil w', fun h0 b hb => .inl ⟨h0, hb⟩⟩
  · obtain ⟨a, c, rfl, _⟩ := h3.form
    obtain ⟨a2, c2, rfl, _⟩ := h4.form
    refine ⟨hx, a, c, a2, c2, ?_⟩
    unfold closeO closeD
    rw [if_pos h1, if_pos h1, h1]
    exact ⟨h2, h3, h4, h5⟩
/-- The new row of the reference's entries is apart. -/
theorem OldOr.apart {W W1 W2 : World} {l : List AccD} {B lb rb : Nat} {d d2 : LedD} {m m2 : LMem} {va ve ve2 : Value} {N : Nat} (h : OldOr N d ve d2 ve2) (k : KA W l B lb d m rb va ve) (hN : W.heap.size ≤ N) (hs : SigIn W1 ve2 d2.ents)
    (hf : FreshOr W2 m.ve m2.ve) (hw : W.heap.size ≤ W2.heap.size) (ho : (N ≤ W2.heap.size ∧ W1.heap.size ≤ W2.heap.size) ∨ (∀ b, m2.ve.ownBlock = some b → b < N)) :
    0 < d2.ents.length → ∀ b, ve2.ownBlock = some b → b ≠ lb ∧ m2.ve.ownBlock ≠ some b ∧ b ≠ rb := fun h0 b hb => by
  have hl1 := k.led.led.lt
  have hl2 := k.ref.lt
  have hb1 := hs.own_lt h0 b hb
  rcases h h0 b hb with ⟨h1, h2⟩ | h1
  · obtain ⟨a1, a2, a3⟩ := k.apart h1 b h2
    refine ⟨a1, fun e => ?_, a3⟩
    rcases hf with hf | ⟨g, hg, hl⟩
    · exact a2 (hf ▸ e)
    · rw [hg] at e; cases e
      have := k.lt _ (.inr (.inr (.inr (.inr (.inr ⟨h1, h2⟩)))))
      omega
  · refine ⟨by omega, fun e => ?_, by omega⟩
    rcases ho with ⟨o1, o2⟩ | o1
    · rcases hf with hf | ⟨g, hg, hl⟩
      · rw [hf] at e
        have := (k.led.ents.lt b e).2
        omega
      · rw [hg] at e; cases e
        omega
    · have := o1 b e
      omega
theorem FreshOr.down {W W2 : World} {v v' : Value} (h : FreshOr W2 v v') (hw : W.heap.size ≤ W2.heap.size) : FreshOr W v v' := by
  rcases h with h | ⟨g, hg, hl⟩
  · exact .inl h
  · exact .inr ⟨g, hg, by omega⟩
theorem KA.x0 {W : World} {l : List AccD} {B lb rb : Nat} {d : LedD} {m : LMem} {va ve : Value} (h : KA W l B lb d m rb va ve) : Ext W W := Below.refl _ _
theorem KA.bs {W : World} {l : List AccD} {B lb rb : Nat} {d : LedD} {m : LMem} {va ve : Value} (h : KA W l B lb d m rb va ve) : B ≤ W.heap.size := Nat.le_trans h.led.blt (Nat.le_of_lt h.led.led.lt)
theorem KA.rbv {W : World} {l : List AccD} {B lb rb : Nat} {d : LedD} {m : LMem} {va ve v' : Value} (h : KA W l B lb d m rb va ve) (hf : FreshOr W m.ve v') : ∀ b, v'.ownBlock = some b → b ≠ rb := fun b hb e => by
  subst e
  rcases hf with hf | ⟨g, hg, hl⟩
  · exact h.rbl.2.2.2 (hf ▸ hb)
  · rw [hg] at hb; cases hb
    have := h.ref.lt
    omega
/-- A block that is apart from a pair stays so. -/
theorem KA.napart {W W2 : World} {l : List AccD} {B lb rb tb N : Nat} {d d2 : LedD} {m m2 : LMem} {va ve ve2 : Value} (k : KA W l B lb d m rb va ve) (hn : ¬ KT lb d m rb ve tb) (ht : tb < W.heap.size)
    (hab : m2.ab = m.ab) (hva : m2.va = m.va) (hf : FreshOr W2 m.ve m2.ve) (hw : W.heap.size ≤ W2.heap.size) (ho : OldOr N d ve d2 ve2) (hN : W.heap.size ≤ N) : ¬ KT lb d2 m2 rb ve2 tb := fun hk => by
  rcases hk with rfl | hk | hk | hk | rfl | ⟨h0, hk⟩
  · exact hn (.inl rfl)
  · exact hn (.inr (.inl (hk.trans hab)))
  · exact hn (.inr (.inr (.inl (hva ▸ hk))))
  · rcases hf with hf | ⟨g, hg, hl⟩
    · exact hn (.inr (.inr (.inr (.inl (hf ▸ hk)))))
    · rw [hg] at hk; cases hk
      omega
  · exact hn (.inr (.inr (.inr (.inr (.inl rfl)))))
  · rcases ho h0 _ hk with h1 | h1
    · exact hn (.inr (.inr (.inr (.inr (.inr h1)))))
    · omega
/-- What a step may write. -/
def KS (lb rb : Nat) (m : LMem) (k : Nat) : Prop := k = lb ∨ k = rb ∨ m.ve.ownBlock = some k
theorem KA.fin {W W1 W2 : World} {l : List AccD} {B lb rb : Nat} {d d2 : LedD} {m m2 : LMem} {va ve ve2 : Value} (k : KA W l B lb d m rb va ve) (hl : LSt W1 B lb d2 m2) (hok : LedOk d2) (hnn : NN d2) (hac : d2.acc = d.acc)
    (hab : m2.ab = m.ab) (hva : m2.va = m.va) (hf : FreshOr W m.ve m2.ve) (hs : SigIn W1 ve2 d2.ents) (hap : 0 < d2.ents.length → ∀ b, ve2.ownBlock = some b → b ≠ lb ∧ m2.ve.ownBlock ≠ some b ∧ b ≠ rb)
    (hon : Only (KS lb rb m) W W1) (hb : Blk W2 rb (rCells d2 va ve2) 81) (ho : Only (fun k => k = rb) W1 W2) : KA W2 l B lb d2 m2 rb va ve2 ∧ Only (KS lb rb m) W W2 := by
  have h1 := hl.only ho (fun e => k.rbl.1 e.symm) (fun e => k.rbl.2.1 (by rw [← hab]; exact e.symm)) (fun b hb e => k.rbl.2.2.1 (by rw [← hva, ← e]; exact hb)) (fun b hb e => k.rbv hf b hb e)
  have h2 := hs.only0 ho (fun h0 b hb e => (hap h0 b hb).2.2 e)
  exact ⟨k.step (W1 := W1) h1 hok hnn hac hab hva hf hb h2 hap, hon.tr (ho.weak (fun k _ h => .inr (.inl h)))⟩
theorem KS.apart {lb rb tb : Nat} {d : LedD} {m : LMem} {ve : Value} (h : ¬ KT lb d m rb ve tb) : ¬ KS lb rb m tb := fun hk => by
  rcases hk with hk | hk | hk
  · exact h (.inl hk)
  · exact h (.inr (.inr (.inr (.inr (.inl hk)))))
  · exact h (.inr (.inr (.inr (.inl hk))))
end Go.Proofs.Ytekplfbfkfiabaa
