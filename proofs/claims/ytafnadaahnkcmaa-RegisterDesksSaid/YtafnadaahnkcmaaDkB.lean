/- RegisterDesks: a round over the readings, told plainly. -/
import Derived.Test.YtafnadaahnkcmaaDkA
namespace Go.Proofs.Ytafnadaahnkcmaa
open Go.RowKit
set_option linter.unusedVariables false
set_option linter.unusedSimpArgs false

theorem newErr_ok {pat : List Int} {l : List Loop} {win limit : Int} (h : newErr pat l win limit = 0) : (2 ≤ pat.length ∧ pat.length ≤ 12) ∧ (∀ x ∈ l, x.Ok) ∧ (l.length : Int) = pat.length - 1 ∧ GoodP pat win ∧ (0 ≤ limit ∧ limit ≤ 1000000) := by
  unfold newErr at h
  split at h
  · omega
  · rename_i h1
    split at h
    · omega
    · rename_i h2
      split at h
      · omega
      · rename_i h3
        split at h
        · omega
        · rename_i h4
          refine ⟨Classical.not_not.1 h1, fun x hx => Classical.byContradiction fun hn => h2 ⟨x, hx, hn⟩, Classical.not_not.1 h3, Classical.byContradiction fun hn => h4 (.inl hn), Classical.byContradiction fun hn => h4 (.inr hn)⟩
/-- A new desk is right. -/
theorem DOk.new {pat : List Int} {l : List Loop} {win limit : Int} (h : newErr pat l win limit = 0) : DOk (newD pat l win limit) := by
  obtain ⟨⟨h1, h2⟩, h3, h4, h5, h6⟩ := newErr_ok h
  have hl : ∀ i (hi : i < l.length), (newD pat l win limit).loop i = l[i] := fun i hi => by simp [newD, DeskD.loop, List.getD, hi]
  have hq : ∀ i (hi : i < l.length), (newD pat l win limit).q i = List.replicate l[i].dead.toNat 0 := fun i hi => by simp [newD, DeskD.q, List.getD, hi]
  have hn : (newD pat l win limit).n = l.length := rfl
  exact {
    p1 := h1
    p2 := h2
    pn := by rw [hn]; show l.length + 1 = pat.length; omega
    qn := by rw [hn]; simp [newD]
    good := h5
    lim := h6
    ok := fun i hi => by rw [hn] at hi; rw [hl i hi]; exact h3 _ (List.getElem_mem hi)
    ql := fun i hi => by
      rw [hn] at hi; rw [hl i hi, hq i hi, List.length_replicate]
      have := h3 _ (List.getElem_mem hi)
      unfold Loop.Ok at this; omega
    qb := fun i hi x hx => by
      rw [hn] at hi; rw [hq i hi] at hx
      have := List.eq_of_mem_replicate hx
      omega }

/-- What a reading makes of the desk, the copy it gives and its code. -/
noncomputable def oD (d : DeskD) (seen : List Int) : DeskD := if readErr d seen = 0 then readD d seen else d
noncomputable def oC (d : DeskD) (seen : List Int) : CopyD := if readErr d seen = 0 then rC d seen else ⟨false, 0, [], []⟩
noncomputable def oE (d : DeskD) (seen : List Int) : Int := if readErr d seen = 0 then rCode d seen else readErr d seen
/-- The numbers of a desk are right, and its copies are whole. -/
structure DkOk (d : DeskD) : Prop where
  ok : DOk d
  q : QLast d
  ml : ∀ i, i < d.copies.length → (d.copy i).moves.length = d.n ∧ (d.copy i).errs.length = d.n
  mb : ∀ i, ∀ y ∈ mvs d i, -10000 ≤ y ∧ y ≤ 10000
theorem DkOk.new {pat : List Int} {l : List Loop} {win limit : Int} (h : newErr pat l win limit = 0) : DkOk (newD pat l win limit) :=
  ⟨DOk.new h, QLast.new _ _ _ _, fun i hi => by simp [newD] at hi, fun i y hy => by simp [newD, mvs] at hy⟩
theorem DkOk.read {d : DeskD} (h : DkOk d) (seen : List Int) : DkOk (readD d seen) where
  ok := h.ok.read seen
  q := h.q.read seen
  ml := fun i hi => by
    have hn : (readD d seen).n = d.n := rfl
    have hc : (readD d seen).copies.length = d.copies.length + 1 := by simp [readD]
    rw [hc] at hi
    rw [hn]
    by_cases e : i = d.copies.length
    · subst e
      have : (readD d seen).copy d.copies.length = rC d seen := by simp [readD, DeskD.copy, List.getD]
      rw [this]
      exact ⟨by simp [rC, rMovs], by simp [rC, rErrs]⟩
    · have : (readD d seen).copy i = d.copy i := by simp [readD, DeskD.copy, List.getD, List.getElem?_append_left (show i < d.copies.length by omega)]
      rw [this]
      exact h.ml i (by omega)
  mb := fun i y hy => by
    have e : mvs (readD d seen) i = mvs d i ++ [gD (rC d seen).moves i] := by simp [mvs, readD]
    rw [e] at hy
    rcases List.mem_append.1 hy with hy | hy
    · exact h.mb i y hy
    · have hy2 : y = gD (rMovs d seen d.n) i := by simpa [rC] using hy
      by_cases hi : i < d.n
      · rw [hy2, gD_lt (by simpa [rMovs] using hi)]
        simp only [rMovs, List.getElem_map, List.getElem_range]
        exact rMov_bd h.ok i hi
      · have : gD (rMovs d seen d.n) i = 0 := by simp [gD, rMovs, List.getD, hi]
        omega
theorem DkOk.o {d : DeskD} (h : DkOk d) (seen : List Int) : DkOk (oD d seen) := by
  unfold oD
  split
  · exact h.read seen
  · exact h
theorem oD_same (d : DeskD) (seen : List Int) : (oD d seen).pat = d.pat ∧ (oD d seen).loops = d.loops ∧ (oD d seen).win = d.win ∧ (oD d seen).limit = d.limit := by
  unfold oD
  split <;> exact ⟨rfl, rfl, rfl, rfl⟩
theorem oC_len (d : DeskD) (seen : List Int) : (oC d seen).errs.length = (oC d seen).moves.length ∧ (oC d seen).moves.length ≤ d.n := by
  unfold oC
  split
  · exact ⟨by simp [rC, rErrs, rMovs], by simp [rC, rMovs]⟩
  · exact ⟨rfl, Nat.zero_le _⟩
/-- The waste. -/
theorem wasteN_app (cs : List CopyD) (c : CopyD) (k : Nat) (hk : k ≤ cs.length) : wasteN (cs ++ [c]) k = wasteN cs k := by
  induction k with
  | zero => rfl
  | succ k ih =>
    have e : (cs ++ [c]).getD k default = cs.getD k default := by simp [List.getD, List.getElem?_append_left (show k < cs.length by omega)]
    unfold wasteN; rw [ih (by omega), e]
def wst (d : DeskD) : Nat := wasteN d.copies d.copies.length
theorem oD_len (d : DeskD) (seen : List Int) : ((oD d seen).copies.length = d.copies.length + 1 ∧ wst (oD d seen) = wst d + if (oC d seen).good = true then 0 else 1) ∨ (oD d seen).copies.length = d.copies.length ∧ wst (oD d seen) = wst d := by
  unfold oD oC
  by_cases h : readErr d seen = 0
  · rw [if_pos h, if_pos h]
    refine .inl ⟨by simp [readD], ?_⟩
    have hc : (readD d seen).copies.length = d.copies.length + 1 := by simp [readD]
    unfold wst
    rw [hc, wasteN]
    have e1 : (readD d seen).copies = d.copies ++ [rC d seen] := rfl
    rw [e1, wasteN_app _ _ _ (Nat.le_refl _)]
    simp [List.getD]
  · rw [if_neg h]
    exact .inr ⟨rfl, rfl⟩

/-- A row that may be written. -/
def Room (w : World) (v : Value) (n size : Nat) : Prop := n = 0 ∨ ∃ g c cs t, v = .slice (some ⟨g, 0, none⟩) n c ∧ Blk w g cs t ∧ n * size ≤ cs.size
theorem Room.of_owns {w : World} {B : Nat} {e : TypeId} {size n : Nat} {v : Value} {xs : List Value} (h : w.ownsRow B e size v n xs) : Room w v n size := by
  rcases h.2 with ⟨_, h0⟩ | ⟨g, cap, cur, hv, _, hb, hc, _, hs, _⟩
  · exact .inl h0
  · exact .inr ⟨g, cap, cur, e, hv, hb, by rw [hs]; exact Nat.mul_le_mul_right _ hc⟩
theorem Room.only {w w' : World} {v : Value} {n size : Nat} {S : Nat → Prop} (h : Room w v n size) (k : Only S w w') (hs : ∀ b, v.ownBlock = some b → ¬ S b) : Room w' v n size := by
  rcases h with h | ⟨g, c, cs, t, hv, hb, hn⟩
  · exact .inl h
  · exact .inr ⟨g, c, cs, t, hv, hb.only k (hs g (by rw [hv]; rfl)), hn⟩
theorem Room.ext {w w' : World} {v : Value} {n size : Nat} (h : Room w v n size) (k : Ext w w') : Room w' v n size :=
  h.only (S := fun _ => False) (Only.of_ext k) fun _ _ h => h
/-- One of its blocks has been written. -/
theorem Room.put {w w' : World} {v : Value} {n size g : Nat} {cs cs' : Array Value} {t : TypeId} (h : Room w v n size) (hb : Blk w g cs t) (hb' : Blk w' g cs' t) (hz : cs'.size = cs.size) (k : Only (fun b => b = g) w w') : Room w' v n size := by
  rcases h with h | ⟨g2, c, cs2, t2, hv, hb2, hn⟩
  · exact .inl h
  · by_cases e : g2 = g
    · subst e
      have e2 : some (Obj.cells cs2 t2 (0, 0)) = some (Obj.cells cs t (0, 0)) := hb2.symm.trans hb
      cases e2
      exact .inr ⟨g2, c, cs', _, hv, hb', by omega⟩
    · exact .inr ⟨g2, c, cs2, t2, hv, hb2.only k e, hn⟩

/-- Both desks, between two readings. -/
structure DkInv (R : Nat → Prop) (w0 w : World) (db tb : Nat) (vp vl vc : Value) (d : DeskD) (m : DMem) (ρ : Nat → Nat) : Prop where
  ext : Ext w0 w
  st : DSt w db d m ρ
  low : ∀ b, ρ b ≠ 0 → w0.heap.size ≤ b
  dk : DkOk d
  hp : Ints w0 vp d.pat
  hl : LoopsIn w0 vl d.loops
  tbk : Blk w tb #[vp, vl, .int .i64 d.win, .int .i64 d.limit, vc] 71
  tb0 : ρ tb = 0
  tbl : w0.heap.size ≤ tb
  cps : CpsIn R w vc d.copies
  r : ∀ b, R b → ρ b = 0 ∧ b ≠ tb ∧ b < w.heap.size
theorem DkInv.only {R S : Nat → Prop} {w0 w w' : World} {db tb : Nat} {vp vl vc : Value} {d : DeskD} {m : DMem} {ρ : Nat → Nat} (h : DkInv R w0 w db tb vp vl vc d m ρ) (k : Only S w w') (hS : ∀ b, S b → w0.heap.size ≤ b ∧ ρ b = 0 ∧ b ≠ tb ∧ ¬ R b) : DkInv R w0 w' db tb vp vl vc d m ρ :=
  { h with
    ext := h.ext.then_only k fun b hb => (hS b hb).1
    st := h.st.only k fun b hb => (hS b hb).2.1
    tbk := h.tbk.only k fun hb => (hS tb hb).2.2.1 rfl
    cps := h.cps.only k fun b hR hb => (hS b hb).2.2.2 hR
    r := fun b hb => ⟨(h.r b hb).1, (h.r b hb).2.1, Nat.lt_of_lt_of_le (h.r b hb).2.2 k.size⟩ }
theorem DkInv.ext1 {R : Nat → Prop} {w0 w w' : World} {db tb : Nat} {vp vl vc : Value} {d : DeskD} {m : DMem} {ρ : Nat → Nat} (h : DkInv R w0 w db tb vp vl vc d m ρ) (k : Ext w w') : DkInv R w0 w' db tb vp vl vc d m ρ :=
  h.only (S := fun _ => False) (Only.of_ext k) fun _ hb => hb.elim

/-- A reading under way: the desk has read, the reference's desk holds vc still, and cs are its copies in vr. -/
structure RdMid (R : Nat → Prop) (w0 w : World) (db tb : Nat) (vp vl vc : Value) (d d' : DeskD) (m : DMem) (ρ : Nat → Nat) (vr : Value) (cs : List CopyD) (c : CopyD) (ve vm : Value) : Prop where
  ext : Ext w0 w
  st : DSt w db d' m ρ
  low : ∀ b, ρ b ≠ 0 → w0.heap.size ≤ b
  tbk : Blk w tb #[vp, vl, .int .i64 d.win, .int .i64 d.limit, vc] 71
  tb0 : ρ tb = 0
  tbl : w0.heap.size ≤ tb
  cps : CpsIn R w vr cs
  r : ∀ b, R b → ρ b = 0 ∧ b ≠ tb ∧ b < w.heap.size ∧ ¬ (ve.ownBlock = some b ∨ vm.ownBlock = some b)
  re : w.ownsRow w0.heap.size 3 1 ve c.errs.length (c.errs.map (.int .i64))
  rm : w.ownsRow w0.heap.size 3 1 vm c.moves.length (c.moves.map (.int .i64))
  rz : ∀ b, ve.ownBlock = some b ∨ vm.ownBlock = some b → ρ b = 0 ∧ b ≠ tb
section
variable {R : Nat → Prop} {w0 w w' : World} {db tb : Nat} {vp vl vc vr ve vm : Value} {d d' : DeskD} {m : DMem} {ρ : Nat → Nat} {cs : List CopyD} {c : CopyD} {seen : List Int} {e : Ending}
theorem RdMid.ext1 (h : RdMid R w0 w db tb vp vl vc d d' m ρ vr cs c ve vm) (k : Ext w w') : RdMid R w0 w' db tb vp vl vc d d' m ρ vr cs c ve vm :=
  { h with
    ext := h.ext.tr k
    st := h.st.ext k
    tbk := h.tbk.ext k
    cps := h.cps.ext k
    r := fun b hb => ⟨(h.r b hb).1, (h.r b hb).2.1, Nat.lt_of_lt_of_le (h.r b hb).2.2.1 k.size, (h.r b hb).2.2.2⟩
    re := owns_ext h.re k
    rm := owns_ext h.rm k }
/-- The desk has read. -/
theorem DkInv.read (h : DkInv R w0 w db tb vp vl vc d m ρ) (hp : ReadPost w db d m ρ seen e w') :
    ∃ ve vm m' ρ', e = .returned (.tuple #[cpV (oC d seen).good (oC d seen).shift ve vm, .int .i64 (oE d seen)]) ∧ RdMid R w0 w' db tb vp vl vc d (oD d seen) m' ρ' vc d.copies (oC d seen) ve vm := by
  rcases hp with ⟨h1, h2, h3⟩ | ⟨h1, ve, vm, m', ρ', h2, h3, h4, h5, h6, h7, h8, h9⟩
  · refine ⟨.slice none 0 0, .slice none 0 0, m, ρ, ?_, ?_⟩
    · unfold oC oE; rw [if_neg h1, if_neg h1]; exact h2
    · have e1 : oD d seen = d := by unfold oD; rw [if_neg h1]
      have e2 : oC d seen = ⟨false, 0, [], []⟩ := by unfold oC; rw [if_neg h1]
      rw [e1, e2]
      have k := h.ext1 h3
      exact { ext := k.ext, st := k.st, low := k.low, tbk := k.tbk, tb0 := k.tb0, tbl := k.tbl, cps := k.cps, r := fun b hb => ⟨(k.r b hb).1, (k.r b hb).2.1, (k.r b hb).2.2, fun h => by rcases h with h | h <;> cases h⟩,
              re := World.ownsRow_nil _ _ _ _, rm := World.ownsRow_nil _ _ _ _, rz := fun b hb => by rcases hb with hb | hb <;> cases hb }
  · have e1 : oD d seen = readD d seen := by unfold oD; rw [if_pos h1]
    have e2 : oC d seen = rC d seen := by unfold oC; rw [if_pos h1]
    have hz : w0.heap.size ≤ w.heap.size := h.ext.size
    have hen : ∀ b, ve.ownBlock = some b ∨ vm.ownBlock = some b → w.heap.size ≤ b := fun b hb => by
      rcases hb with hb | hb
      · exact (h3.lt b hb).1
      · exact (h4.lt b hb).1
    have htl : tb < w.heap.size := h.tbk.lt
    refine ⟨ve, vm, m', ρ', ?_, ?_⟩
    · unfold oE; rw [e2, if_pos h1]; exact h2
    · rw [e1, e2]
      exact {
        ext := h.ext.then_only h9 fun b hb => h.low b hb
        st := h7
        low := fun b hb => by
          rcases Nat.lt_or_ge b w.heap.size with hl | hl
          · rw [h8 b hl] at hb; exact h.low b hb
          · omega
        tbk := h.tbk.only h9 fun hb => hb h.tb0
        tb0 := (h8 tb htl).trans h.tb0
        tbl := h.tbl
        cps := h.cps.only h9 fun b hR hb => hb (h.r b hR).1
        r := fun b hb => by
          obtain ⟨r1, r2, r3⟩ := h.r b hb
          exact ⟨(h8 b r3).trans r1, r2, Nat.lt_of_lt_of_le r3 h9.size, fun hh => by have := hen b hh; omega⟩
        re := owns_weak (by have : (rC d seen).errs.length = d.n := by simp [rC, rErrs]
                            rw [this]; exact h3) hz
        rm := owns_weak (by have : (rC d seen).moves.length = d.n := by simp [rC, rMovs]
                            rw [this]; exact h4) hz
        rz := fun b hb => ⟨h6 b hb, fun e => by have := hen b hb; omega⟩ }
/-- The reference's desk is what came out. -/
theorem RdMid.done {vp vl : Value} (h : RdMid R w0 w db tb vp vl vc d (oD d seen) m ρ vr (oD d seen).copies c ve vm) (hd : DkOk d) (hp : Ints w0 vp d.pat) (hl : LoopsIn w0 vl d.loops)
    (hb : Blk w' tb #[vp, vl, .int .i64 d.win, .int .i64 d.limit, vr] 71) (k : Only (fun b => b = tb) w w') :
    DkInv R w0 w' db tb vp vl vr (oD d seen) m ρ ∧ Room w' ve c.errs.length 1 ∧ Room w' vm c.moves.length 1 := by
  obtain ⟨s1, s2, s3, s4⟩ := oD_same d seen
  have ne : ∀ b, ve.ownBlock = some b ∨ vm.ownBlock = some b → ¬ b = tb := fun b hb => (h.rz b hb).2
  exact ⟨{
    ext := h.ext.then_only k fun b hb => by rw [hb]; exact h.tbl
    st := h.st.only k fun b hb => by rw [hb]; exact h.tb0
    low := h.low
    dk := hd.o seen
    hp := by rw [s1]; exact hp
    hl := by rw [s2]; exact hl
    tbk := by rw [s3, s4]; exact hb
    tb0 := h.tb0
    tbl := h.tbl
    cps := h.cps.only k fun b hR hb => (h.r b hR).2.1 hb
    r := fun b hb => ⟨(h.r b hb).1, (h.r b hb).2.1, Nat.lt_of_lt_of_le (h.r b hb).2.2.1 k.size⟩ }, (Room.of_owns h.re).only k fun b hb => ne b (.inl hb), (Room.of_owns h.rm).only k fun b hb => ne b (.inr hb)⟩
end
end Go.Proofs.Ytafnadaahnkcmaa
