/- What ledgers that are kept by deeds have, in plain words: no stock below zero, each beginning audits. -/
import Derived.Test.YtekplfbfkfiabaaBkPlCo
import Derived.Test.YtekplfbfkfiabaaBkAudit
namespace Go.Proofs.Ytekplfbfkfiabaa
set_option linter.unusedVariables false

/-- No stock is ever below zero. -/
def NN (d : LedD) : Prop := ∀ (k i : Nat), i < d.n → (d.at' i).stock = true → 0 ≤ balA (i : Int) (d.ents.take k)
/-- An audit accepts what the ledger has. -/
def Rep (d : LedD) : Prop := auditF (newD d.key d.acc) d.ents 0 = ((d.ents.length : Int), 0)
theorem NN.new (key : Int) (l : List AccD) : NN (newD key l) := fun k i _ _ => by
  show 0 ≤ balA (i : Int) (([] : List SigD).take k)
  rw [List.take_nil]; exact Int.le_refl _
theorem Rep.new (key : Int) (l : List AccD) : Rep (newD key l) := rfl
theorem NN.closed {d : LedD} (h : NN d) (day : Int) : NN { d with closed := day } := h
theorem Rep.closed {d : LedD} (h : Rep d) (day : Int) : Rep { d with closed := day } := h
theorem NN.post {d : LedD} {x : EntD} (h : NN d) (hx : postErr d x = 0) : NN (postD d x) := fun k i hi hs => by
  obtain ⟨_, h2, _, h4, _, _, h7⟩ := postErr_ok hx
  show 0 ≤ balA (i : Int) ((d.ents ++ [(⟨x, signOf d x⟩ : SigD)]).take k)
  have hs2 : (d.at' i).stock = true := hs
  by_cases hk : k ≤ d.ents.length
  · rw [List.take_append_of_le_length hk]
    exact h k i hi hs
  · rw [List.take_of_length_le (by simp; omega), balA_snoc]
    have h0 := h d.ents.length i hi hs
    rw [List.take_length] at h0
    unfold mv
    dsimp only
    by_cases e : x.frm = (i : Int)
    · have h8 := h7 (by rw [e]; exact hs2)
      rw [e] at h8
      rw [if_pos e, if_neg (by omega)]
      omega
    · rw [if_neg e]
      split <;> omega
/-- A ledger with more entries. -/
def rp (d : LedD) (xs : List SigD) : LedD := { d with ents := d.ents ++ xs }
theorem rp_nil (d : LedD) : rp d [] = d := by unfold rp; rw [List.append_nil]
theorem rp_cons (d : LedD) (x : SigD) (xs : List SigD) (hs : signOf d x.e = x.sign) : rp (postD d x.e) xs = rp d (x :: xs) := by
  unfold rp postD
  rw [hs]
  simp
theorem auditF_nil (d : LedD) (k : Nat) : auditF d [] k = ((k : Int), 0) := rfl
theorem auditF_go (d : LedD) (x : SigD) (xs : List SigD) (k : Nat) (h1 : postErr d x.e = 0) (h2 : signOf d x.e = x.sign) : auditF d (x :: xs) k = auditF (postD d x.e) xs (k + 1) := by
  show (if postErr d x.e ≠ 0 then ((k : Int), postErr d x.e) else if signOf d x.e ≠ x.sign then ((k : Int), 7) else auditF (postD d x.e) xs (k + 1)) = _
  rw [if_neg (fun h => h h1), if_neg (fun h => h h2)]
theorem auditF_cons {d : LedD} {x : SigD} {xs : List SigD} {k : Nat} (h : auditF d (x :: xs) k = (((k + (xs.length + 1) : Nat) : Int), 0)) : postErr d x.e = 0 ∧ signOf d x.e = x.sign ∧ auditF (postD d x.e) xs (k + 1) = (((k + 1 + xs.length : Nat) : Int), 0) := by
  unfold auditF at h
  split at h
  · rename_i h1
    have := (Prod.mk.inj h).2
    exact absurd this h1
  · rename_i h1
    split at h
    · have := (Prod.mk.inj h).2
      omega
    · rename_i h2
      refine ⟨Decidable.not_not.1 h1, Decidable.not_not.1 h2, ?_⟩
      rw [h, show k + (xs.length + 1) = k + 1 + xs.length by omega]
theorem auditF_snoc (xs : List SigD) (y : SigD) : ∀ (d : LedD) (k : Nat), auditF d xs k = (((k + xs.length : Nat) : Int), 0) → postErr (rp d xs) y.e = 0 → signOf (rp d xs) y.e = y.sign → auditF d (xs ++ [y]) k = (((k + (xs.length + 1) : Nat) : Int), 0) := by
  induction xs with
  | nil =>
    intro d k _ h1 h2
    rw [rp_nil] at h1 h2
    rw [List.nil_append, auditF_go d y [] k h1 h2, auditF_nil, List.length_nil]
  | cons x xs ih =>
    intro d k h h1 h2
    rw [List.length_cons] at h
    obtain ⟨k1, k2, k3⟩ := auditF_cons h
    rw [← rp_cons d x xs k2] at h1 h2
    rw [List.cons_append, auditF_go d x _ k k1 k2, ih _ (k + 1) k3 h1 h2, List.length_cons, show k + 1 + (xs.length + 1) = k + (xs.length + 1 + 1) by omega]
theorem auditF_pre (xs ys : List SigD) : ∀ (d : LedD) (k : Nat), auditF d (xs ++ ys) k = (((k + (xs ++ ys).length : Nat) : Int), 0) → auditF d xs k = (((k + xs.length : Nat) : Int), 0) := by
  induction xs with
  | nil =>
    intro d k _
    rw [auditF_nil, List.length_nil, Nat.add_zero]
  | cons x xs ih =>
    intro d k h
    rw [List.cons_append, List.length_cons] at h
    obtain ⟨k1, k2, k3⟩ := auditF_cons h
    rw [auditF_go d x _ k k1 k2, ih _ (k + 1) k3, List.length_cons, show k + 1 + xs.length = k + (xs.length + 1) by omega]
theorem postErr_open {d : LedD} {x : EntD} (h : postErr d x = 0) : postErr { d with closed := -1 } x = 0 := by
  obtain ⟨h1, h2, h3, h4, h5, h6, h7⟩ := postErr_ok h
  unfold postErr
  rw [if_neg (fun hh => hh h1), if_neg (fun hh => hh h2)]
  show (if (d.at' x.frm).good ≠ (d.at' x.to).good then (140 : Int) else if ¬ (1 ≤ x.amt ∧ x.amt ≤ 1000000000000 ∧ 0 ≤ x.day ∧ x.day ≤ 100000) then 6 else if x.day ≤ -1 then 12 else if x.day < d.last then 11 else if (d.at' x.frm).stock = true ∧ balA x.frm d.ents < x.amt then 9 else 0) = 0
  rw [if_neg (fun hh => hh h3), if_neg (fun hh => hh h4), if_neg (by omega), if_neg (by omega), if_neg (fun hh => by have := h7 hh.1; omega)]
theorem Rep.post {d : LedD} {x : EntD} (h : Rep d) (hx : postErr d x = 0) : Rep (postD d x) := by
  have h1 := auditF_snoc d.ents ⟨x, signOf d x⟩ (newD d.key d.acc) 0 (by rw [Nat.zero_add]; exact h) (postErr_open hx) rfl
  unfold Rep
  have e : (postD d x).ents.length = 0 + (d.ents.length + 1) := by simp [postD]
  rw [e]
  exact h1
theorem Rep.pre {d : LedD} (h : Rep d) (k : Nat) (hk : k ≤ d.ents.length) : auditF (newD d.key d.acc) (d.ents.take k) 0 = ((k : Int), 0) := by
  have h1 := auditF_pre (d.ents.take k) (d.ents.drop k) (newD d.key d.acc) 0 (by rw [List.take_append_drop, Nat.zero_add]; exact h)
  rw [h1, List.length_take, Nat.min_eq_left hk, Nat.zero_add]

/-- What fIdx finds. -/
theorem fIdx_at {α : Type} (p : α → Bool) : ∀ (xs : List α) (k : Nat), 0 ≤ fIdx p xs k → ∃ (j : Nat) (h : j < xs.length), fIdx p xs k = ((k + j : Nat) : Int) ∧ p xs[j] = true
  | [], k, h => by unfold fIdx at h; omega
  | x :: xs, k, h => by
    unfold fIdx at h ⊢
    by_cases hp : p x = true
    · rw [if_pos hp]
      exact ⟨0, by simp, by simp, hp⟩
    · rw [if_neg hp] at h ⊢
      obtain ⟨j, hj, h1, h2⟩ := fIdx_at p xs (k + 1) h
      exact ⟨j + 1, by simpa using hj, by rw [h1]; congr 1; omega, by simpa using h2⟩
theorem at_nat {d : LedD} {i : Nat} (h : i < d.n) : d.at' (i : Int) = d.acc[i]'h := by
  unfold LedD.at'
  rw [Int.toNat_natCast, List.getD_eq_getElem?_getD, List.getElem?_eq_getElem h]; rfl
/-- A stock has a loss account of its good. -/
theorem loss_of {d : LedD} (h : LedOk d) {i : Nat} (hi : i < d.n) (hs : (d.at' i).stock = true) : ∃ j : Nat, j < d.n ∧ lossI d.acc (d.at' i).good = (j : Int) ∧ (d.at' j).good = (d.at' i).good ∧ (d.at' j).stock = false := by
  have hc := h.acc
  unfold checkE at hc
  rw [if_pos (show 1 ≤ d.acc.length ∧ d.acc.length ≤ 40 from h.n1)] at hc
  split at hc
  · omega
  · rename_i h2
    have h3 : badP d.acc (d.at' i) = false := by
      rw [Bool.not_eq_true, List.any_eq_false] at h2
      rw [at_nat hi]
      have := h2 (d.acc[i]'hi) (List.getElem_mem hi)
      simpa using this
    unfold badP at h3
    rw [hs] at h3
    simp at h3
    obtain ⟨j, hj, h4, h5⟩ := fIdx_at (lossP (d.at' i).good) d.acc 0 (by have := h3.2; unfold lossI at this; omega)
    have h6 : j < d.n := hj
    refine ⟨j, h6, by unfold lossI; rw [h4]; simp, ?_⟩
    rw [at_nat h6]
    unfold lossP at h5
    simp at h5
    exact h5
theorem good_of {d : LedD} (h : LedOk d) {i : Nat} (hi : i < d.n) : 1 ≤ (d.at' i).good ∧ (d.at' i).good ≤ 4 := by
  have hc := h.acc
  unfold checkE at hc
  rw [if_pos (show 1 ≤ d.acc.length ∧ d.acc.length ≤ 40 from h.n1)] at hc
  split at hc
  · omega
  · rename_i h2
    have h3 : badP d.acc (d.at' i) = false := by
      rw [Bool.not_eq_true, List.any_eq_false] at h2
      rw [at_nat hi]
      have := h2 (d.acc[i]'hi) (List.getElem_mem hi)
      simpa using this
    unfold badP at h3
    rw [Bool.or_eq_false_iff] at h3
    have h4 := h3.1
    rw [Bool.not_eq_false', nIn_iff] at h4
    exact h4
/-- The entry by which a stock's difference is put in is right. -/
theorem closeX_ok {d : LedD} (h : LedOk d) {k : Nat} (hk : k < d.n) (hs : (d.at' k).stock = true) {c day : Int} (hc : 0 ≤ c) (hne : c - balA k d.ents ≠ 0) (hr : -1000000000000 ≤ c - balA k d.ents ∧ c - balA k d.ents ≤ 1000000000000)
    (hd : 0 ≤ day ∧ day ≤ 100000) (hcl : d.closed < day) (hla : d.last ≤ day) (hn : d.ents.length < 5000) : postErr d (closeX d k (c - balA k d.ents) day) = 0 := by
  obtain ⟨j, hj, h1, h2, h3⟩ := loss_of h hk hs
  have hjk : (j : Int) ≠ (k : Int) := fun e => by
    have e2 : j = k := by omega
    subst e2
    rw [hs] at h3; cases h3
  unfold closeX
  rw [h1]
  split
  · rename_i hp
    unfold postErr
    dsimp only
    rw [if_neg (by omega), if_neg (by omega), if_neg (fun hh => hh h2), if_neg (by omega), if_neg (by omega), if_neg (by omega), if_neg (fun hh => by rw [h3] at hh; cases hh.1)]
  · rename_i hp
    unfold postErr
    dsimp only
    rw [if_neg (by omega), if_neg (by omega), if_neg (fun hh => hh h2.symm), if_neg (by omega), if_neg (by omega), if_neg (by omega), if_neg (by omega)]
theorem mv_to {i : Int} {x : EntD} (h : x.to = i) (h2 : x.frm ≠ i) : mv i x = x.amt := by unfold mv; rw [if_pos h, if_neg h2]; omega
theorem mv_frm {i : Int} {x : EntD} (h : x.frm = i) (h2 : x.to ≠ i) : mv i x = -x.amt := by unfold mv; rw [if_pos h, if_neg h2]; omega
theorem mv_no {i : Int} {x : EntD} (h : x.frm ≠ i) (h2 : x.to ≠ i) : mv i x = 0 := by unfold mv; rw [if_neg h, if_neg h2]; rfl
theorem closeX_mv {d : LedD} (h : LedOk d) {k : Nat} (hk : k < d.n) (hs : (d.at' k).stock = true) {dif day : Int} : mv k (closeX d k dif day) = dif ∧ ∀ i : Nat, i < d.n → (d.at' i).stock = true → i ≠ k → mv i (closeX d k dif day) = 0 := by
  obtain ⟨j, hj, h1, h2, h3⟩ := loss_of h hk hs
  have hjn : ∀ i : Nat, i < d.n → (d.at' i).stock = true → (j : Int) ≠ (i : Int) := fun i _ hsi e => by
    have e2 : j = i := by omega
    subst e2
    rw [hsi] at h3; cases h3
  have hjk := hjn k hk hs
  unfold closeX
  rw [h1]
  refine ⟨?_, fun i hi hsi hik => ?_⟩
  · split
    · exact mv_to rfl hjk
    · rw [mv_frm (x := ⟨k, j, -dif, day⟩) rfl hjk]; show -(-dif) = dif; omega
  · have hji := hjn i hi hsi
    have hki : (k : Int) ≠ (i : Int) := by omega
    split
    · exact mv_no hji hki
    · exact mv_no hki hji
theorem last_post (d : LedD) (x : EntD) : (postD d x).last = x.day := by
  unfold LedD.last postD
  simp
theorem closeX_day (d : LedD) (k : Nat) (dif day : Int) : (closeX d k dif day).day = day := by
  unfold closeX; split <;> rfl

/-- What closing leads to. -/
structure ClG (d : LedD) (day : Int) (ds : List Int) (r : List (Nat × Int)) (R : LedD × List Int × Int) : Prop where
  err : R.2.2 = 0
  dif : R.2.1 = ds ++ r.map fun p => p.2 - balA (p.1 : Int) d.ents
  ok : LedOk R.1
  acc : R.1.acc = d.acc
  key : R.1.key = d.key
  clo : R.1.closed = d.closed
  nn : NN d → NN R.1
  rep : Rep d → Rep R.1
  len : R.1.ents.length ≤ d.ents.length + r.length
  last : R.1.last ≤ day
  bal : ∀ p ∈ r, balA (p.1 : Int) R.1.ents = p.2
  same : ∀ i : Nat, i < d.n → (d.at' i).stock = true → i ∉ r.map (·.1) → balA (i : Int) R.1.ents = balA (i : Int) d.ents
theorem closeF_good (day : Int) : ∀ (r : List (Nat × Int)) (d : LedD) (ds : List Int), LedOk d → 0 ≤ day ∧ day ≤ 100000 → d.closed < day → d.last ≤ day → (r.map (·.1)).Nodup →
    (∀ p ∈ r, p.1 < d.n ∧ (d.at' p.1).stock = true ∧ 0 ≤ p.2 ∧ -1000000000000 ≤ p.2 - balA (p.1 : Int) d.ents ∧ p.2 - balA (p.1 : Int) d.ents ≤ 1000000000000) → d.ents.length + r.length ≤ 5000 → ClG d day ds r (closeF day d ds r)
  | [], d, ds, h, _, _, hl, _, _, _ => by
    unfold closeF
    exact ⟨rfl, by simp, h, rfl, rfl, rfl, id, id, by simp, hl, fun p hp => (by cases hp), fun _ _ _ _ => rfl⟩
  | (k, c) :: r, d, ds, h, hd, hc, hl, hn, hp, hle => by
    rw [closeF_cons]
    rw [List.map_cons, List.nodup_cons] at hn
    obtain ⟨hk, hs, hc0, hr1, hr2⟩ := hp (k, c) (by simp)
    dsimp only at hk hs hc0 hr1 hr2
    rw [List.length_cons] at hle
    have hdk : ∀ p ∈ r, p.1 ≠ k := fun p hpm e => hn.1 (List.mem_map.2 ⟨p, hpm, e⟩)
    split
    · rename_i h0
      have g := closeF_good day r d (ds ++ [0]) h hd hc hl hn.2 (fun p hpm => hp p (List.mem_cons_of_mem _ hpm)) (by omega)
      refine ⟨g.err, ?_, g.ok, g.acc, g.key, g.clo, g.nn, g.rep, by have := g.len; rw [List.length_cons]; omega, g.last, fun p hpm => ?_, fun i hi hsi hni => ?_⟩
      · rw [g.dif, List.map_cons, List.append_assoc]
        dsimp only
        rw [h0]; rfl
      · rcases List.mem_cons.1 hpm with rfl | hpm
        · have := g.same k hk hs hn.1
          dsimp only
          omega
        · exact g.bal p hpm
      · rw [List.map_cons] at hni
        exact g.same i hi hsi (fun hh => hni (List.mem_cons_of_mem _ hh))
    · rename_i h0
      have hpe := closeX_ok h hk hs hc0 h0 ⟨hr1, hr2⟩ hd hc hl (by omega)
      have hmv := closeX_mv h hk hs (dif := c - balA k d.ents) (day := day)
      rw [if_neg (fun hh => hh hpe)]
      have hb : ∀ i : Nat, balA (i : Int) (postD d (closeX d k (c - balA k d.ents) day)).ents = balA (i : Int) d.ents + mv i (closeX d k (c - balA k d.ents) day) := fun i => by
        show balA (i : Int) (d.ents ++ [_]) = _
        rw [balA_snoc]
      have hlen : (postD d (closeX d k (c - balA k d.ents) day)).ents.length = d.ents.length + 1 := by simp [postD]
      have g := closeF_good day r (postD d (closeX d k (c - balA k d.ents) day)) (ds ++ [c - balA k d.ents]) (h.post hpe) hd hc (by rw [last_post, closeX_day]; exact Int.le_refl _) hn.2 (fun p hpm => by
        obtain ⟨a1, a2, a3, a4, a5⟩ := hp p (List.mem_cons_of_mem _ hpm)
        have e := hb p.1
        rw [hmv.2 p.1 a1 a2 (hdk p hpm), Int.add_zero] at e
        rw [e]
        exact ⟨a1, a2, a3, a4, a5⟩) (by omega)
      refine ⟨g.err, ?_, g.ok, g.acc, g.key, g.clo, fun hnn => g.nn (hnn.post hpe), fun hrp => g.rep (hrp.post hpe), by have := g.len; rw [List.length_cons]; omega, g.last, fun p hpm => ?_, fun i hi hsi hni => ?_⟩
      · have e : (r.map fun p => p.2 - balA (p.1 : Int) (postD d (closeX d k (c - balA k d.ents) day)).ents) = r.map fun p => p.2 - balA (p.1 : Int) d.ents := List.map_congr_left fun p hpm => by
          obtain ⟨a1, a2, _⟩ := hp p (List.mem_cons_of_mem _ hpm)
          rw [hb p.1, hmv.2 p.1 a1 a2 (hdk p hpm), Int.add_zero]
        rw [g.dif, List.map_cons, List.append_assoc, List.singleton_append, e]
      · rcases List.mem_cons.1 hpm with rfl | hpm
        · have e1 := g.same k hk hs hn.1
          have e2 := hb k
          rw [hmv.1] at e2
          dsimp only
          omega
        · exact g.bal p hpm
      · rw [List.map_cons] at hni
        have e1 := g.same i hi hsi (fun hh => hni (List.mem_cons_of_mem _ hh))
        rw [e1, hb i, hmv.2 i hi hsi (fun e => hni (by rw [e]; exact List.mem_cons_self)), Int.add_zero]
theorem stk_nodup (d : LedD) : d.stk.Nodup := by
  unfold LedD.stk stkN
  exact List.Pairwise.filter _ List.nodup_range
theorem stk_mem (d : LedD) (i : Nat) : i ∈ d.stk ↔ i < d.n ∧ (d.at' i).stock = true := by
  unfold LedD.stk stkN LedD.at'
  rw [List.mem_filter, List.mem_range, Int.toNat_natCast]
theorem zip_fst {α β : Type} : ∀ (xs : List α) (ys : List β), xs.length = ys.length → (xs.zip ys).map (·.1) = xs
  | [], _, _ => rfl
  | x :: xs, [], h => by cases h
  | x :: xs, y :: ys, h => by rw [List.zip_cons_cons, List.map_cons, zip_fst xs ys (by simpa using h)]
theorem zip_fst_mem {α β : Type} {xs : List α} {ys : List β} {p : α × β} (h : p ∈ xs.zip ys) : p.1 ∈ xs ∧ p.2 ∈ ys := ⟨(List.of_mem_zip h).1, (List.of_mem_zip h).2⟩
/-- Closing a day with what was counted. -/
theorem close_good {d : LedD} {day : Int} {cs : List Int} (h : LedOk d) (hd : 0 ≤ day ∧ day ≤ 100000) (hc : d.closed < day) (hl : d.last ≤ day) (hlen : cs.length = d.stk.length) (hcs : ∀ c ∈ cs, 0 ≤ c ∧ c ≤ 1000000) (hb : ∀ i ∈ d.stk, 0 ≤ balA (i : Int) d.ents ∧ balA (i : Int) d.ents ≤ 1000000000)
    (hn : d.ents.length + d.stk.length ≤ 5000) : closeErr d day cs = 0 ∧ ClG d day [] (closeP d cs) (closeF day d [] (closeP d cs)) := by
  have hmem : ∀ p ∈ closeP d cs, p.1 < d.n ∧ (d.at' p.1).stock = true ∧ 0 ≤ p.2 ∧ -1000000000000 ≤ p.2 - balA (p.1 : Int) d.ents ∧ p.2 - balA (p.1 : Int) d.ents ≤ 1000000000000 := fun p hp => by
    unfold closeP at hp
    obtain ⟨h1, h2⟩ := zip_fst_mem hp
    have h3 := hb p.1 h1
    have h4 := hcs p.2 h2
    have h5 := (stk_mem d p.1).1 h1
    exact ⟨h5.1, h5.2, h4.1, by omega, by omega⟩
  have hz : (closeP d cs).length = d.stk.length := by unfold closeP; rw [List.length_zip, hlen, Nat.min_self]
  have g := closeF_good day (closeP d cs) d [] h hd hc hl (by unfold closeP; rw [zip_fst _ _ hlen.symm]; exact stk_nodup d) hmem (by rw [hz]; exact hn)
  refine ⟨?_, g⟩
  unfold closeErr
  rw [if_neg (fun hh => hh hd), if_neg (by omega), if_neg (by omega), if_neg (fun hh => hh hlen), if_neg (fun hh => ?_)]
  · exact g.err
  · rw [List.all_eq_false] at hh
    obtain ⟨p, hp, hq⟩ := hh
    obtain ⟨_, _, h3, h4, h5⟩ := hmem p hp
    apply hq
    unfold closeR
    rw [Bool.and_eq_true, nIn_iff]
    exact ⟨by simpa using h3, h4, h5⟩
end Go.Proofs.Ytekplfbfkfiabaa
