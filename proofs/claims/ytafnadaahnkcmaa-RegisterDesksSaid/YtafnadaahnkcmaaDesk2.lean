/- What a reading makes of a desk; a copy more in its memory. -/
import Derived.Test.YtafnadaahnkcmaaDesk1
import Derived.Test.YtafnadaahnkcmaaHits
namespace Go.Proofs.Ytafnadaahnkcmaa
open Go.RowKit
set_option linter.unusedVariables false

abbrev lostN : Int := 1000000000
def rB (d : DeskD) (seen : List Int) : Int × Int := bestS (cntF d.pat seen d.win) (shs 2001)
def rF (d : DeskD) (seen : List Int) : List Int := fitL d.pat seen d.win (rB d seen).1
def rIs (d : DeskD) (seen : List Int) : Bool := (gD (rF d seen) 0 != lostN) && decide ((d.pat.length : Int) ≤ 2 * (rB d seen).2)
def rErr (d : DeskD) (seen : List Int) (i : Nat) : Int := if rIs d seen = true ∧ gD (rF d seen) (i + 1) ≠ lostN then gD (rF d seen) (i + 1) - gD (rF d seen) 0 - (gD d.pat (i + 1) - gD d.pat 0) else lostN
def rMov (d : DeskD) (seen : List Int) (i : Nat) : Int := if rErr d seen i ≠ lostN then clamp (d.loop i).step (-(rErr d seen i + sumL (d.q i))) else 0
def rErrs (d : DeskD) (seen : List Int) (k : Nat) : List Int := (List.range k).map (rErr d seen)
def rMovs (d : DeskD) (seen : List Int) (k : Nat) : List Int := (List.range k).map (rMov d seen)
def rGood (d : DeskD) (seen : List Int) : Bool := rIs d seen && ((rB d seen).2 == d.pat.length) && decide (farL (rErrs d seen d.n) ≤ d.limit)
def rC (d : DeskD) (seen : List Int) : CopyD := ⟨rGood d seen, if rIs d seen then (rB d seen).1 else 0, rErrs d seen d.n, rMovs d seen d.n⟩
def rCode (d : DeskD) (seen : List Int) : Int := if rIs d seen then 0 else 4
def qsAt (d : DeskD) (seen : List Int) (k : Nat) : List (List Int) := (List.range d.n).map fun j => if j < k then tlQ (d.q j) (rMov d seen j) else d.q j
def dAt (d : DeskD) (seen : List Int) (k : Nat) : DeskD := { d with qs := qsAt d seen k }
def readD (d : DeskD) (seen : List Int) : DeskD := { d with qs := qsAt d seen d.n, copies := d.copies ++ [rC d seen] }

theorem qsAt_len (d : DeskD) (seen : List Int) (k : Nat) : (qsAt d seen k).length = d.n := by simp [qsAt]
theorem qsAt_zero (d : DeskD) (seen : List Int) (h : d.qs.length = d.n) : qsAt d seen 0 = d.qs := by
  apply List.ext_getElem
  · simp [qsAt, h]
  · intro i h1 h2
    simp [qsAt, DeskD.q, List.getD, h2]
theorem qsAt_get (d : DeskD) (seen : List Int) (k i : Nat) (hi : i < d.n) : (qsAt d seen k).getD i [] = if i < k then tlQ (d.q i) (rMov d seen i) else d.q i := by
  simp [qsAt, List.getD, hi]
theorem qsAt_succ (d : DeskD) (seen : List Int) (k : Nat) (hk : k < d.n) : (qsAt d seen k).set k (tlQ (d.q k) (rMov d seen k)) = qsAt d seen (k + 1) := by
  apply List.ext_getElem
  · simp [qsAt]
  · intro i h1 h2
    have hi : i < d.n := by simpa [qsAt] using h2
    rw [List.getElem_set]
    by_cases e : k = i
    · subst e; simp [qsAt]
    · rw [if_neg e]
      simp only [qsAt, List.getElem_map, List.getElem_range]
      by_cases h3 : i < k
      · rw [if_pos h3, if_pos (by omega)]
      · rw [if_neg h3, if_neg (by omega)]
theorem rErrs_succ (d : DeskD) (seen : List Int) (k : Nat) : rErrs d seen (k + 1) = rErrs d seen k ++ [rErr d seen k] := by simp [rErrs, List.range_succ]
theorem rMovs_succ (d : DeskD) (seen : List Int) (k : Nat) : rMovs d seen (k + 1) = rMovs d seen k ++ [rMov d seen k] := by simp [rMovs, List.range_succ]

/-- What was found is small, or lost. -/
theorem fit_bd {pat seen : List Int} {win s : Int} (hs : ∀ x ∈ seen, -100000 ≤ x ∧ x ≤ 200000) (i : Nat) (hi : i < pat.length) : gD (fitL pat seen win s) i = lostN ∨ (-100000 ≤ gD (fitL pat seen win s) i ∧ gD (fitL pat seen win s) i ≤ 200000) := by
  have hlen : i < (fitL pat seen win s).length := by simpa [fitL] using hi
  rw [gD_lt hlen]
  have e : (fitL pat seen win s)[i] = fnd seen (pat[i] + s - win) (pat[i] + s + win) := by simp [fitL]
  rw [e]
  by_cases h : fnd seen (pat[i] + s - win) (pat[i] + s + win) = lostN
  · exact .inl h
  · exact .inr (hs _ (fnd_spec seen _ _ h).1)
theorem rIs_f0 {d : DeskD} {seen : List Int} (h : rIs d seen = true) : gD (rF d seen) 0 ≠ lostN := by
  unfold rIs at h; simp only [Bool.and_eq_true, bne_iff_ne, ne_eq] at h; exact h.1
theorem rErr_bd {d : DeskD} {seen : List Int} (hok : DOk d) (hs : ∀ x ∈ seen, -100000 ≤ x ∧ x ≤ 200000) (i : Nat) (hi : i < d.n) : -1000000 ≤ rErr d seen i ∧ rErr d seen i ≤ lostN := by
  unfold rErr
  have hpn := hok.pn
  split
  · rename_i h
    have h0 := fit_bd (pat := d.pat) (win := d.win) (s := (rB d seen).1) hs 0 (by omega)
    have h1 := fit_bd (pat := d.pat) (win := d.win) (s := (rB d seen).1) hs (i + 1) (by omega)
    have hf0 : gD (fitL d.pat seen d.win (rB d seen).1) 0 ≠ lostN := by
      have := h.1; unfold rIs rF at this; simp only [Bool.and_eq_true, bne_iff_ne, ne_eq] at this; exact this.1
    have h0' := h0.resolve_left hf0
    have h1' := h1.resolve_left h.2
    have p0 := hok.good.2 0 (by omega)
    have p1 := hok.good.2 (i + 1) (by omega)
    rw [← gD_lt (l := d.pat) (k := 0) (by omega)] at p0
    rw [← gD_lt (l := d.pat) (k := i + 1) (by omega)] at p1
    unfold rF lostN
    omega
  · unfold lostN; omega
theorem rMov_bd {d : DeskD} {seen : List Int} (hok : DOk d) (i : Nat) (hi : i < d.n) : -10000 ≤ rMov d seen i ∧ rMov d seen i ≤ 10000 := by
  unfold rMov
  split
  · have h := hok.ok i hi
    unfold Loop.Ok at h
    have := clamp_bd (d.loop i).step (-(rErr d seen i + sumL (d.q i))) (by omega)
    omega
  · omega

theorem tlQ_mem {xs : List Int} {u x : Int} (h : x ∈ tlQ xs u) : x ∈ xs ∨ x = u := by
  have : x ∈ xs ++ [u] := List.mem_of_mem_tail h
  simpa using this
/-- A desk stays right. -/
theorem DOk.read {d : DeskD} (h : DOk d) (seen : List Int) : DOk (readD d seen) where
  p1 := h.p1
  p2 := h.p2
  pn := h.pn
  qn := qsAt_len d seen d.n
  good := h.good
  lim := h.lim
  ok := h.ok
  ql := fun i hi => by
    show (((qsAt d seen d.n).getD i []).length : Int) = _
    have hi' : i < d.n := hi
    rw [qsAt_get d seen d.n i hi', if_pos hi', tlQ_len]; exact h.ql i hi'
  qb := fun i hi x hx => by
    have hi' : i < d.n := hi
    have hx' : x ∈ (qsAt d seen d.n).getD i [] := hx
    rw [qsAt_get d seen d.n i hi', if_pos hi'] at hx'
    rcases tlQ_mem hx' with h1 | h1
    · exact h.qb i hi' x h1
    · rw [h1]; exact rMov_bd h i hi'

theorem cpL_snoc (cs : List CopyD) (c : CopyD) (es ms : Nat → Value) (ve vm : Value) : cpL (cs ++ [c]) (upd es cs.length ve) (upd ms cs.length vm) (cs.length + 1) = cpL cs es ms cs.length ++ cpC c ve vm := by
  unfold cpL
  rw [List.range_succ, List.flatMap_append]
  congr 1
  · apply flat_congr
    intro i hi
    have hi' : i < cs.length := List.mem_range.1 hi
    rw [upd_other _ _ _ _ (by omega), upd_other _ _ _ _ (by omega)]
    congr 1
    simp [List.getD, List.getElem?_append_left hi']
  · simp [upd_same, List.getD]

/-- A copy more. -/
theorem DSt.push {w w2 w3 w4 : World} {db : Nat} {d : DeskD} {m : DMem} {ρ : Nat → Nat} (h : DSt w db d m ρ) {c : CopyD} {ve vm v' : Value} {B : Nat}
    (he : w.ownsRow B 3 1 ve c.errs.length (c.errs.map (.int .i64))) (hm : w.ownsRow B 3 1 vm c.moves.length (c.moves.map (.int .i64))) (hB : ∀ k, ρ k ≠ 0 → (ve.ownBlock ≠ some k ∧ vm.ownBlock ≠ some k)) (hBw : B ≤ w.heap.size)
    (hx : Ext w w2) (hown : w3.ownsRow 0 59 4 v' (d.copies.length + 1) (cpL d.copies m.es m.ms d.copies.length ++ cpC c ve vm)) (hgr : w2.grownBy w3 m.vc.ownBlock) (hf : FreshOr w2 m.vc v') (hw4 : w4 = w3.setCell ⟨db, 3, none⟩ v') :
    ∃ ρ', DSt w4 db { d with copies := d.copies ++ [c] } { m with vc := v', es := upd m.es d.copies.length ve, ms := upd m.ms d.copies.length vm } ρ' ∧ (∀ b, b < B → ρ' b = ρ b) ∧ Only (fun k => m.vc.ownBlock = some k ∨ k = db) w w4 := by
  subst hw4
  have o3 : Only (fun k => m.vc.ownBlock = some k) w w3 := (Only.of_ext hx).tr (only_grown hgr)
  have o4 : Only (fun k => k = db) w3 (w3.setCell ⟨db, 3, none⟩ v') := Only.set _ _ _ rfl
  have o : Only (fun k => m.vc.ownBlock = some k ∨ k = db) w (w3.setCell ⟨db, 3, none⟩ v') := (o3.weak (fun k _ hk => .inl hk)).tr (o4.weak (fun k _ hk => .inr hk))
  have s2 := hx.size
  have s3 := hgr.size
  have s4 := o4.size
  have hvl : ∀ b, m.vc.ownBlock = some b → b < w.heap.size := fun b hb => (h.cps.1.lt b hb).2
  have hvn : ∀ b, v'.ownBlock = some b → b < w3.heap.size := fun b hb => (hown.lt b hb).2
  have hv' : ∀ b, v'.ownBlock = some b → m.vc.ownBlock = some b ∨ w2.heap.size ≤ b := fun b hb => by
    rcases hf with hf | ⟨c, hc, hle⟩
    · exact .inl (hf ▸ hb)
    · rw [hc] at hb; cases hb; exact .inr hle
  have hel : ∀ b, ve.ownBlock = some b → B ≤ b ∧ b < w.heap.size ∧ ρ b = 0 := fun b hb => ⟨(he.lt b hb).1, (he.lt b hb).2, Decidable.byContradiction fun hh => (hB b hh).1 hb⟩
  have hml : ∀ b, vm.ownBlock = some b → B ≤ b ∧ b < w.heap.size ∧ ρ b = 0 := fun b hb => ⟨(hm.lt b hb).1, (hm.lt b hb).2, Decidable.byContradiction fun hh => (hB b hh).2 hb⟩
  obtain ⟨ρ', hρ⟩ : ∃ ρ' : Nat → Nat, ρ' = fun b => if v'.ownBlock = some b then 2 else if ve.ownBlock = some b ∨ vm.ownBlock = some b then 3 else ρ b := ⟨_, rfl⟩
  have hrv : ∀ b, v'.ownBlock = some b → ρ' b = 2 := fun b hb => by rw [hρ]; dsimp only; rw [if_pos hb]
  have hnz : ∀ b, ρ b ≠ 0 → ρ' b = ρ b := fun b hb => by
    rw [hρ]; dsimp only
    have hbl := h.hlt b hb
    by_cases h1 : v'.ownBlock = some b
    · rw [if_pos h1]
      rcases hv' b h1 with h2 | h2
      · exact (h.cps.2 b h2).symm
      · omega
    · rw [if_neg h1, if_neg (fun hh => hh.elim (hB b hb).1 (hB b hb).2)]
  have hold : ∀ b, b < B → ρ' b = ρ b := fun b hb => by
    by_cases h0 : ρ b = 0
    · rw [hρ]; dsimp only
      rw [if_neg (fun h1 => by rcases hv' b h1 with h2 | h2; have := h.cps.2 b h2; omega; omega), if_neg (fun hh => by rcases hh with h1 | h1; have := hel b h1; omega; have := hml b h1; omega)]
    · exact hnz b h0
  have no : ∀ r, r ≠ 2 → r ≠ 1 → ∀ k, ρ k = r → ¬ (m.vc.ownBlock = some k ∨ k = db) := fun r h2 h1 k hk hS => by
    rcases hS with hS | rfl
    · rw [h.cps.2 k hS] at hk; omega
    · rw [h.rdb] at hk; omega
  have keep : ∀ {r : Nat} {e : TypeId} {size n : Nat} {v : Value} {xs : List Value}, Row ρ r w e size v n xs → r ≠ 2 → r ≠ 1 → r ≠ 0 → Row ρ' r (w3.setCell ⟨db, 3, none⟩ v') e size v n xs := fun hr h2 h1 h0 =>
    ⟨owns_only hr.1 o fun b hb => no _ h2 h1 b (hr.2 b hb), fun b hb => (hnz b (by rw [hr.2 b hb]; exact h0)).trans (hr.2 b hb)⟩
  have hdbv : ∀ k, v'.ownBlock = some k → k ≠ db := fun k hk e => by
    have h1 := hrv k hk
    rw [e, hnz db (by rw [h.rdb]; omega), h.rdb] at h1; omega
  have hdb0 : ρ db ≠ 0 := by rw [h.rdb]; omega
  have newRow : ∀ {v : Value} {n : Nat} {xs : List Value}, w.ownsRow B 3 1 v n xs → (∀ b, v.ownBlock = some b → (ve.ownBlock = some b ∨ vm.ownBlock = some b) ∧ b < w.heap.size ∧ ρ b = 0) → Row ρ' 3 (w3.setCell ⟨db, 3, none⟩ v') 3 1 v n xs := fun hr hb =>
    ⟨owns_weak (owns_only hr o fun b hb' hS => by
        have h0 := (hb b hb').2.2
        rcases hS with hS | rfl
        · have := h.cps.2 b hS; omega
        · exact hdb0 h0) (by omega), fun b hb' => by
      obtain ⟨h1, h2, h3⟩ := hb b hb'
      rw [hρ]; dsimp only
      rw [if_neg (fun hv => by rcases hv' b hv with h4 | h4; have := h.cps.2 b h4; omega; omega), if_pos h1]⟩
  have hlen : ({ d with copies := d.copies ++ [c] } : DeskD).copies.length = d.copies.length + 1 := by simp
  refine ⟨ρ', {
    hlt := fun b hb => ?_
    rdb := (hnz db hdb0).trans h.rdb
    desk := ?_
    rmb := (hnz _ (by rw [h.rmb]; omega)).trans h.rmb
    marks := h.marks.only o (no 3 (by omega) (by omega) _ h.rmb)
    pat := keep h.pat (by omega) (by omega) (by omega)
    loops := keep h.loops (by omega) (by omega) (by omega)
    rq := fun j hj => (hnz _ (by rw [h.rq j hj]; omega)).trans (h.rq j hj)
    rg := fun j hj => (hnz _ (by rw [h.rg j hj]; omega)).trans (h.rg j hj)
    qst := fun j hj => (h.qst j hj).only o (no _ (by omega) (by omega) _ (h.rq j hj)) (no _ (by omega) (by omega) _ (h.rg j hj))
    cps := ?_
    es := fun j hj => ?_
    ms := fun j hj => ?_ }, hold, o⟩
  · rw [hρ] at hb; dsimp only at hb
    split at hb
    · rename_i hvb; have := hvn b hvb; omega
    · split at hb
      · rename_i hvb
        rcases hvb with h1 | h1
        · have := hel b h1; omega
        · have := hml b h1; omega
      · have := h.hlt b hb; omega
  · have hd4 : Blk w3 db #[.pointer (some ⟨m.mb, 0, none⟩), m.vl, .int .i64 d.limit, m.vc] 102 := h.desk.only o3 (fun hS => by have := h.cps.2 db hS; rw [h.rdb] at this; omega)
    exact blk_set hd4 3 v'
  · refine ⟨?_, hrv⟩
    rw [hlen]
    show (w3.setCell ⟨db, 3, none⟩ v').ownsRow 0 59 4 v' (d.copies.length + 1) (cpL (d.copies ++ [c]) (upd m.es d.copies.length ve) (upd m.ms d.copies.length vm) (d.copies.length + 1))
    rw [cpL_snoc]
    exact owns_only hown o4 fun k hk => hdbv k hk
  · rw [hlen] at hj
    by_cases e : j = d.copies.length
    · subst e
      show Row ρ' 3 _ 3 1 (upd m.es d.copies.length ve d.copies.length) ((d.copies ++ [c]).getD d.copies.length default).errs.length (((d.copies ++ [c]).getD d.copies.length default).errs.map (.int .i64))
      rw [upd_same, show (d.copies ++ [c]).getD d.copies.length default = c by simp [List.getD]]
      exact newRow he fun b hb => ⟨.inl hb, (hel b hb).2⟩
    · show Row ρ' 3 _ 3 1 (upd m.es d.copies.length ve j) ((d.copies ++ [c]).getD j default).errs.length (((d.copies ++ [c]).getD j default).errs.map (.int .i64))
      rw [upd_other _ _ _ _ e, show (d.copies ++ [c]).getD j default = d.copy j by simp [DeskD.copy, List.getD, List.getElem?_append_left (show j < d.copies.length by omega)]]
      exact keep (h.es j (by omega)) (by omega) (by omega) (by omega)
  · rw [hlen] at hj
    by_cases e : j = d.copies.length
    · subst e
      show Row ρ' 3 _ 3 1 (upd m.ms d.copies.length vm d.copies.length) ((d.copies ++ [c]).getD d.copies.length default).moves.length (((d.copies ++ [c]).getD d.copies.length default).moves.map (.int .i64))
      rw [upd_same, show (d.copies ++ [c]).getD d.copies.length default = c by simp [List.getD]]
      exact newRow hm fun b hb => ⟨.inr hb, (hml b hb).2⟩
    · show Row ρ' 3 _ 3 1 (upd m.ms d.copies.length vm j) ((d.copies ++ [c]).getD j default).moves.length (((d.copies ++ [c]).getD j default).moves.map (.int .i64))
      rw [upd_other _ _ _ _ e, show (d.copies ++ [c]).getD j default = d.copy j by simp [DeskD.copy, List.getD, List.getElem?_append_left (show j < d.copies.length by omega)]]
      exact keep (h.ms j (by omega)) (by omega) (by omega) (by omega)
end Go.Proofs.Ytafnadaahnkcmaa
