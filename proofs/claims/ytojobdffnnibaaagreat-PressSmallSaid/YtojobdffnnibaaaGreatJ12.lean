/- The rounds of a search that looks for nothing, in plain words. The reference: the actions of a press. The reference: a goal's error; is it fulfilled; the situation of a code. The reference's search: what it keeps in memory. -/
import Derived.Test.YtojobdffnnibaaaGreatJ11
import Derived.Test.YtojobdffnnibaaaGreatJ9
import Derived.Test.YtojobdffnnibaaaGreatJ4
import Derived.Test.YtojobdffnnibaaaGreatJ8
import Derived.BigQuiet
import Derived.Test.YtojobdffnnibaaaGreatPSr0
namespace Go.Proofs.YtojobdffnnibaaaGreat
set_option linter.unusedVariables false
/-- The steps behind i rounds. -/
def roundL (p : PressD) (s : StD) : Nat → List StepD
 | 0 => [⟨s, 0, 0, -1⟩]
 | i + 1 => match (roundL p s i)[i]? with | none => roundL p s i | some t => expandD p i t.at_ (roundL p s i)
theorem addStep_pre (p : PressD) (i : Nat) (s : StD) (l : List StepD) (a : Int × Nat) : l <+: addStep p i s l a := by
 unfold addStep
 split
 {
 dsimp only
 split
 · exact List.prefix_refl _
 · exact List.prefix_append _ _
 }
 · exact List.prefix_refl _
theorem foldl_pre {p : PressD} {i : Nat} {s : StD} : ∀ (ks : List (Int × Nat)) (l : List StepD), l <+: ks.foldl (addStep p i s) l
 | [], l => List.prefix_refl _
 | k :: ks, l => (addStep_pre p i s l k).trans (foldl_pre ks _)
theorem round_pre (p : PressD) (s : StD) (i : Nat) : roundL p s i <+: roundL p s (i + 1) := by
 conv => rhs; unfold roundL
 split
 · exact List.prefix_refl _
 · exact foldl_pre _ _
theorem round_mono (p : PressD) (s : StD) {i j : Nat} (h : i ≤ j) : roundL p s i <+: roundL p s j := by
 induction j with
 | zero => obtain rfl : i = 0 := by omega
           exact List.prefix_refl _
 | succ j ih =>
   by_cases hij : i = j + 1
   · subst hij; exact List.prefix_refl _
   · exact (ih (by omega)).trans (round_pre p s j)
theorem pre_get {l l' : List StepD} (h : l <+: l') {j : Nat} (hj : j < l.length) : ∃ h' : j < l'.length, l'[j] = l[j] := by
 have := h.length_le; exact ⟨by omega, (h.getElem hj).symm⟩
/-- All fit. -/
def AllFit (n : Nat) (l : List StepD) : Prop := ∀ x ∈ l, Fit n x.at_
theorem addStep_fit {p : PressD} {i n : Nat} {s : StD} {l : List StepD} {a : Int × Nat} (hs : Fit n s) (h : AllFit n l) : AllFit n (addStep p i s l a) := by
 unfold addStep
 split
 {
 dsimp only
 split
 · exact h
 {
 intro x hx
 rcases List.mem_append.1 hx with hx | hx
 · exact h x hx
 · rw [List.mem_singleton] at hx; subst hx; exact hs.act _ _
 }
 }
 · exact h
structure RoundOk (p : PressD) (s : StD) (l : List StepD) : Prop where
 back : Back l
 apart : Apart l
 fit : AllFit s.units.length l
 first : l[0]? = some ⟨s, 0, 0, -1⟩
theorem RoundOk.len {p : PressD} {s : StD} {l : List StepD} (h : RoundOk p s l) : l.length ≤ 32768 := h.apart.len
theorem RoundOk.pos {p : PressD} {s : StD} {l : List StepD} (h : RoundOk p s l) : 0 < l.length := by
 have := h.first
 by_cases h0 : 0 < l.length
 · exact h0
 · rw [List.getElem?_eq_none (by omega)] at this; cases this
theorem RoundOk.add {p : PressD} {s : StD} {l : List StepD} (h : RoundOk p s l) {i : Nat} (hi : i < l.length) {a : Int × Nat} {t : StD} (ht : Fit s.units.length t) : RoundOk p s (addStep p i t l a) := by
 refine ⟨addStep_back h.back hi, addStep_apart h.apart, addStep_fit ht h.fit, ?_⟩; obtain ⟨r, hr⟩ := addStep_pre p i t l a; rw [← hr, List.getElem?_append_left h.pos]; exact h.first
theorem RoundOk.fold {p : PressD} {s : StD} {i : Nat} {t : StD} (ht : Fit s.units.length t) : ∀ (ks : List (Int × Nat)) {l : List StepD}, RoundOk p s l → i < l.length → RoundOk p s (ks.foldl (addStep p i t) l)
 | [], _, h, _ => h
 | k :: ks, _, h, hi => RoundOk.fold ht ks (h.add hi ht) (Nat.lt_of_lt_of_le hi (addStep_le' _ _ _ _ _))
theorem round_ok {p : PressD} {s : StD} (hd : 0 ≤ s.drive ∧ s.drive ≤ 2) : ∀ i, RoundOk p s (roundL p s i)
 | 0 => ⟨back_one s 0 0, by unfold Apart roundL; simp, fun x hx => by unfold roundL at hx; rw [List.mem_singleton] at hx; subst hx; exact ⟨hd, rfl⟩, rfl⟩
 | i + 1 => by
   have ih := round_ok (p := p) hd i; unfold roundL
   by_cases hi : i < (roundL p s i).length
   { rw [List.getElem?_eq_getElem hi]; dsimp only; unfold expandD; exact RoundOk.fold (ih.fit _ (List.getElem_mem hi)) _ ih hi }
   · rw [List.getElem?_eq_none (by omega)]
     exact ih
theorem round_next {p : PressD} {s : StD} {i : Nat} (h : i < (roundL p s i).length) : roundL p s (i + 1) = expandD p i (roundL p s i)[i].at_ (roundL p s i) := by
 conv => lhs; unfold roundL
 rw [List.getElem?_eq_getElem h]
theorem searchD_round {p : PressD} {s : StD} (done : StD → Bool) : ∀ (f i : Nat),
 (∃ j, i ≤ j ∧ ∃ h : j < (roundL p s j).length, done (roundL p s j)[j].at_ = true ∧ (∀ m, i ≤ m → m < j → ∃ h : m < (roundL p s m).length, done (roundL p s m)[m].at_ = false) ∧ searchD p done f i (roundL p s i) = (roundL p s j, (j:Int))) ∨
 (∃ n, i ≤ n ∧ (roundL p s n).length ≤ n ∧ (∀ m, i ≤ m → m < n → ∃ h : m < (roundL p s m).length, done (roundL p s m)[m].at_ = false) ∧ searchD p done f i (roundL p s i) = (roundL p s n, -1)) ∨
 (∀ m, i ≤ m → m < i + f → m < (roundL p s m).length)
 | 0, i => .inr (.inr fun m h1 h2 => by omega)
 | f + 1, i => by
   unfold searchD
   by_cases hi : i < (roundL p s i).length
   {
   rw [List.getElem?_eq_getElem hi]; dsimp only
   by_cases hd : done (roundL p s i)[i].at_ = true
   · rw [if_pos hd]
     exact .inl ⟨i, Nat.le_refl _, hi, hd, fun m h1 h2 => by omega, rfl⟩
   {
   rw [if_neg hd, ← round_next hi]; have hd' : done (roundL p s i)[i].at_ = false := by simpa using hd
   have hm : ∀ m, i ≤ m → (i + 1 ≤ m → ∃ h : m < (roundL p s m).length, done (roundL p s m)[m].at_ = false) → ∃ h : m < (roundL p s m).length, done (roundL p s m)[m].at_ = false := fun m h1 h2 => by
    by_cases e : m = i
    · subst e; exact ⟨hi, hd'⟩
    · exact h2 (by omega)
   rcases searchD_round done f (i + 1) with ⟨j, h1, h2, h3, h4, h5⟩ | ⟨n, h1, h2, h3, h4⟩ | h1
   · exact .inl ⟨j, by omega, h2, h3, fun m a b => hm m a fun c => h4 m c b, h5⟩
   · exact .inr (.inl ⟨n, by omega, h2, fun m a b => hm m a fun c => h3 m c b, h4⟩)
   {
   refine .inr (.inr fun m a b => ?_)
   by_cases e : m = i
   · subst e; exact hi
   · exact h1 m (by omega) (by omega)
   }
   }
   }
   · rw [List.getElem?_eq_none (by omega)]
     exact .inr (.inl ⟨i, Nat.le_refl _, by omega, fun m h1 h2 => by omega, rfl⟩)
theorem closed_round {p : PressD} {s : StD} (hd : 0 ≤ s.drive ∧ s.drive ≤ 2) : closedL p s = roundL p s (closedL p s).length ∧ ∀ m, m < (closedL p s).length → m < (roundL p s m).length := by
 rcases searchD_round (p := p) (s := s) (fun _ => false) 40000 0 with ⟨j, _, _, h, _⟩ | ⟨n, _, h1, h2, h3⟩ | h
 · cases h
 {
 have e : closedL p s = roundL p s n := by
  have : closedL p s = (searchD p (fun _ => false) 40000 0 (roundL p s 0)).1 := rfl; rw [this, h3]
 have hn : (roundL p s n).length = n := by
  rcases Nat.eq_zero_or_pos n with h0 | h0
  { subst h0; have := (round_ok (p := p) hd 0).pos; omega }
  { obtain ⟨h4, _⟩ := h2 (n - 1) (by omega) (by omega); have := (round_mono p s (show n - 1 ≤ n by omega)).length_le; omega }
 rw [e, hn]; exact ⟨rfl, fun m hm => (h2 m (Nat.zero_le _) hm).1⟩
 }
 { have h1 := h 32768 (by omega) (by omega); have := (round_ok (p := p) hd 32768).len; omega }
theorem closed_get {p : PressD} {s : StD} (hd : 0 ≤ s.drive ∧ s.drive ≤ 2) {m : Nat} (h : m < (closedL p s).length) : ∃ h' : m < (roundL p s m).length, (closedL p s)[m] = (roundL p s m)[m] := by
 obtain ⟨e, h2⟩ := closed_round (p := p) hd; obtain ⟨h3, h4⟩ := pre_get (round_mono p s (Nat.le_of_lt h)) (h2 m h); refine ⟨h2 m h, ?_⟩; rw [← h4]
 congr 1
/-- The actions that lead to a step. -/
def byL (l : List StepD) (j : Nat) : List (Int × Int) := (backD l 40000 j).reverse
theorem backD_pre {l l' : List StepD} (h : l <+: l') (hb : Back l) : ∀ (f : Nat) (i : Int), i.toNat < l.length → backD l' f i = backD l f i
 | 0, _, _ => rfl
 | f + 1, i, hi => by
   obtain ⟨h1, h2⟩ := pre_get h hi; unfold backD; rw [List.getElem?_eq_getElem hi, List.getElem?_eq_getElem h1, h2]; dsimp only
   split
   rfl
   · have := hb i.toNat hi
     rw [backD_pre h hb f _ (by omega)]
theorem byL_pre {l l' : List StepD} (h : l <+: l') (hb : Back l) {j : Nat} (hj : j < l.length) : byL l' j = byL l j := by
 unfold byL; rw [backD_pre h hb _ _ (by simpa using hj)]
theorem byL_zero {p : PressD} {s : StD} {l : List StepD} (h : RoundOk p s l) : byL l 0 = [] := by
 unfold byL; have h0 := h.pos; have h1 := h.first
 rw [List.getElem?_eq_getElem h0] at h1; have h2 : l[0] = ⟨s, 0, 0, -1⟩ := Option.some.inj h1; have : backD l 40000 ((0:Nat):Int) = [] := backD_stop (f := 39999) (by simpa using h0) (by simp [h2]); rw [this]; rfl
theorem byL_add {p : PressD} {s : StD} {l : List StepD} (h : RoundOk p s l) {i : Nat} (hi : i < l.length) {nx : StD} {k u : Int} (hb : Back (l ++ [⟨nx, k, u, i⟩])) : byL (l ++ [⟨nx, k, u, i⟩]) l.length = byL l i ++ [(k, u)] := by
 have hl : (l.length : Int).toNat < (l ++ [(⟨nx, k, u, i⟩ : StepD)]).length := (by simp); have hg : (l ++ [(⟨nx, k, u, i⟩ : StepD)])[(l.length : Int).toNat]'hl = ⟨nx, k, u, i⟩ := (by simp); unfold byL; have e := backD_step (l := l ++ [(⟨nx, k, u, i⟩ : StepD)]) (f := 39999) hl (by rw [hg]; simp); rw [hg] at e; rw [e, List.reverse_cons]; dsimp only; have hlen := h.len; rw [backD_pre (List.prefix_append _ _) h.back _ _ (by simpa using hi), backD_fuel h.back 39999 40000 _ (by omega) (by simp; omega) (by simp; omega)]
theorem seek_round {p : PressD} {s : StD} (g : GoalD) (hd : 0 ≤ s.drive ∧ s.drive ≤ 2) :
 ((seekD p s g).2 < 0 ∧ ∀ m (h : m < (closedL p s).length), fulD g (closedL p s)[m].at_ = false) ∨
 (∃ j, ∃ h : j < (closedL p s).length, 0 ≤ (seekD p s g).2 ∧ fulD g (closedL p s)[j].at_ = true ∧ (∀ m (h : m < (closedL p s).length), m < j → fulD g (closedL p s)[m].at_ = false) ∧ findD p s g = byL (closedL p s) j) := by
 obtain ⟨e, hlt⟩ := closed_round (p := p) hd; obtain ⟨n, hn⟩ : ∃ n, (closedL p s).length = n := ⟨_, rfl⟩; have hnl : (roundL p s n).length = n := (by rw [← hn, ← e]); have hs0 : seekD p s g = searchD p (fulD g) 40000 0 (roundL p s 0) := rfl
 rcases searchD_round (p := p) (s := s) (fulD g) 40000 0 with ⟨j, _, h1, h2, h3, h4⟩ | ⟨n2, _, h1, h2, h3⟩ | h
 {
 have hjn : j < n := by
  apply Classical.byContradiction; intro hc
  by_cases hej : j = n
  · subst hej; omega
  · obtain ⟨h5, _⟩ := h3 n (Nat.zero_le _) (by omega)
    omega
 have hjc : j < (closedL p s).length := (by omega); refine .inr ⟨j, hjc, by rw [hs0, h4]; simp, ?_, fun m hm hmj => ?_, ?_⟩
 · obtain ⟨h5, h6⟩ := closed_get hd hjc
   rw [h6]; exact h2
 { obtain ⟨h5, h6⟩ := closed_get hd hm; rw [h6]; obtain ⟨_, h7⟩ := h3 m (Nat.zero_le _) hmj; exact h7 }
 { unfold findD; rw [hs0, h4]; dsimp only; have hpre := round_mono p s (Nat.le_of_lt hjn); rw [← hn, ← e] at hpre; exact (byL_pre hpre (round_ok hd j).back h1).symm }
 }
 {
 have hnn : n2 = n := by
  apply Classical.byContradiction; intro hc
  rcases Nat.lt_or_ge n2 n with h4 | h4
  · have := hlt n2 (by omega)
    omega
  · obtain ⟨h5, _⟩ := h2 n (Nat.zero_le _) (by omega)
    omega
 subst hnn; refine .inl ⟨by rw [hs0, h3]; simp, fun m hm => ?_⟩; obtain ⟨h5, h6⟩ := closed_get hd hm; rw [h6]; obtain ⟨_, h7⟩ := h2 m (Nat.zero_le _) (by omega); exact h7
 }
 { have h1 := h 32768 (by omega) (by omega); have := (round_ok (p := p) hd 32768).len; omega }
/-- The actions that the reference goes through. -/
def kindsR (n : Nat) : List (Int × Nat) := (kindsD n).filter fun a => a.2 == 0 || decide (a.1 < 7) || a.1 == 12
theorem foldl_filter' {α β : Type} (f : β → α → β) (q : α → Bool) : ∀ (ks : List α) (l : β), (∀ a ∈ ks, q a = false → ∀ l, f l a = l) → (ks.filter q).foldl f l = ks.foldl f l
 | [], _, _ => rfl
 | k :: ks, l, h => by
   have ih := fun l => foldl_filter' f q ks l fun a ha => h a (List.mem_cons_of_mem _ ha)
   by_cases hq : q k = true
   · rw [List.filter_cons_of_pos hq, List.foldl_cons, List.foldl_cons, ih]
   · rw [List.filter_cons_of_neg hq, List.foldl_cons, ih, h k (List.mem_cons_self) (by simpa using hq)]
theorem kindsR_err {p : PressD} {t : StD} {a : Int × Nat} (ha : a ∈ kindsD t.units.length) (hq : (a.2 == 0 || decide (a.1 < 7) || a.1 == 12) = false) : actErr p t a.1 a.2 ≠ 0 := by
 unfold kindsD at ha; simp only [List.mem_flatMap, List.mem_range, List.mem_map] at ha; obtain ⟨k, hk, u, hu, rfl⟩ := ha; simp only [Bool.or_eq_false_iff, beq_eq_false_iff_ne, decide_eq_false_iff_not] at hq; unfold actErr; rw [if_neg (by omega), if_pos]
 · simp
 {
 right; right
 refine ⟨?_, by omega⟩; unfold ofUnit; simp; omega
 }
theorem kindsR_fold (p : PressD) (i : Nat) (t : StD) (l : List StepD) : (kindsR t.units.length).foldl (addStep p i t) l = expandD p i t l := by
 unfold kindsR expandD; refine foldl_filter' _ _ _ _ fun a ha hq l => ?_; unfold addStep; rw [if_neg (kindsR_err ha hq)]
theorem any_code {n : Nat} (hn : n ≤ 3) {l : List StepD} (hl : AllFit n l) {t : StD} (ht : Fit n t) : (l.any fun x => sitD x.at_ == sitD t) = l.any fun x => codeD x.at_ == codeD t := by
 induction l with
 | nil => rfl
 | cons x l ih =>
   rw [List.any_cons, List.any_cons, ih fun y hy => hl y (List.mem_cons_of_mem _ hy)]
   congr 1
   have hx := hl x List.mem_cons_self; rw [Bool.eq_iff_iff, beq_iff_eq, beq_iff_eq]
   constructor
   · intro h
     exact ss_code (sit_ss h hx.dr ht.dr (hx.len.trans ht.len.symm) (by rw [hx.len]; exact hn))
   · intro h
     exact (code_ss hx ht h).sit
/-- All are right. -/
def AllGood (p : PressD) (l : List StepD) : Prop := ∀ x ∈ l, Good p x.at_
theorem addStep_good {p : PressD} {i : Nat} {s : StD} {l : List StepD} {a : Int × Nat} (hs : Good p s) (h : AllGood p l) : AllGood p (addStep p i s l a) := by
 unfold addStep
 split
 {
 rename_i he; dsimp only
 split
 · exact h
 {
 intro x hx
 rcases List.mem_append.1 hx with hx | hx
 · exact h x hx
 { rw [List.mem_singleton] at hx; subst hx; dsimp only; rw [(act_ok' he).2]; exact act_good hs he }
 }
 }
 · exact h
theorem foldl_good {p : PressD} {i : Nat} {s : StD} (hs : Good p s) : ∀ (ks : List (Int × Nat)) {l : List StepD}, AllGood p l → AllGood p (ks.foldl (addStep p i s) l)
 | [], _, h => h
 | k :: ks, _, h => foldl_good hs ks (addStep_good hs h)
theorem round_good {p : PressD} {s : StD} (g : Good p s) : ∀ i, AllGood p (roundL p s i)
 | 0 => fun x hx => by unfold roundL at hx; rw [List.mem_singleton] at hx; subst hx; exact g
 | i + 1 => by
   have ih := round_good g i; unfold roundL
   by_cases hi : i < (roundL p s i).length
   { rw [List.getElem?_eq_getElem hi]; dsimp only; unfold expandD; exact foldl_good (ih _ (List.getElem_mem hi)) _ ih }
   · rw [List.getElem?_eq_none (by omega)]
     exact ih
theorem code_lt {n : Nat} {t : StD} (h : Fit n t) (hn : n ≤ 3) : ∃ c : Nat, codeD t = c ∧ c < 24576 := by
 obtain ⟨c, h1, _, _, h2⟩ := dec_code h hn; exact ⟨c, h1, h2⟩
theorem addStep_code {p : PressD} {n i : Nat} (hn : n ≤ 3) {t : StD} {l : List StepD} (hl : AllFit n l) (ht : Fit n t) (k : Int) (u : Nat) :
 addStep p i t l (k, u) = if actErr p t k u = 0 then (if (l.any fun x => codeD x.at_ == codeD (actD p t k u)) then l else l ++ [⟨actD p t k u, k, u, i⟩]) else l := by
 unfold addStep; dsimp only; rw [any_code hn hl (ht.act k u)]
end Go.Proofs.YtojobdffnnibaaaGreat
namespace Go.Proofs.YtojobdffnnibaaaGreat
open Go.RowKit
set_option linter.unusedVariables false
set_option linter.unusedSimpArgs false
theorem tActsR : SliceT Tryz.prog 30 66 (.agg #[.int .i64 0, .int .i64 0]) 2 16 := ⟨by kernel_rfl, by kernel_rfl, rfl, by decide, by decide⟩
/-- An action that the reference goes through. -/
def kQ (a : Int × Nat) : Bool := a.2 == 0 || decide (a.1 < 7) || a.1 == 12
/-- Those of the first k kinds; and those of one kind more, of the first u towers. -/
def kR (n k : Nat) : List (Int × Nat) := ((List.range k).flatMap fun j => (List.range n).map fun u => (((j + 1 : Nat) : Int), u)).filter kQ
def kRU (n k u : Nat) : List (Int × Nat) := kR n k ++ ((List.range u).map fun u => (((k + 1 : Nat) : Int), u)).filter kQ
theorem kR_end (n : Nat) : kR n 12 = kindsR n := rfl
theorem kRU_zero (n k : Nat) : kRU n k 0 = kR n k := by unfold kRU; simp
theorem kRU_end (n k : Nat) : kRU n k n = kR n (k + 1) := by
 unfold kRU kR; rw [List.range_succ, List.flatMap_append, List.filter_append]; simp
theorem kRU_yes {n k u : Nat} (h : kQ ((((k + 1 : Nat) : Int), u)) = true) : kRU n k (u + 1) = kRU n k u ++ [((k:Int) + 1, u)] := by
 unfold kRU; rw [List.range_succ, List.map_append, List.filter_append, ← List.append_assoc]
 congr 1
 simp only [List.map_cons, List.map_nil]; rw [List.filter_cons_of_pos h, List.filter_nil]; rfl
theorem kRU_no {n k u : Nat} (h : kQ ((((k + 1 : Nat) : Int), u)) = false) : kRU n k (u + 1) = kRU n k u := by
 unfold kRU; rw [List.range_succ, List.map_append, List.filter_append]; simp only [List.map_cons, List.map_nil]; rw [List.filter_cons_of_neg (by rw [h]; simp), List.filter_nil, List.append_nil]
theorem kR_le (n k : Nat) : (kR n k).length ≤ k * n := by
 unfold kR; refine Nat.le_trans (List.length_filter_le _ _) ?_
 induction k with
 | zero => simp
 | succ k ih => rw [List.range_succ, List.flatMap_append, List.length_append, Nat.succ_mul]; simp at ih ⊢; omega
theorem kRU_le (n k u : Nat) : (kRU n k u).length ≤ k * n + u := by
 unfold kRU; rw [List.length_append]; have h1 := kR_le n k; have h2 : (((List.range u).map fun u => (((k + 1 : Nat) : Int), u)).filter kQ).length ≤ u := Nat.le_trans (List.length_filter_le _ _) (by simp); omega
/-- With numbers. -/
def kI (l : List (Int × Nat)) : List (Int × Int) := l.map fun a => (a.1, (a.2 : Int))
set_option maxRecDepth 100000 in
set_option maxHeartbeats 4000000 in
theorem rActions_any (p : PressD) (vj : Value) (w : World) (hj : Truths w vj p.jam) (hl : p.jam.length ≤ 3) :
 Calls Tryz.prog 52 #[pV vj p] w fun e w' => ∃ v, e = .returned v ∧ w'.ownsRow w.heap.size 66 2 v (kindsR p.jam.length).length (acL (kI (kindsR p.jam.length))) ∧ Ext w w' := by
 obtain ⟨_, aj, cj, hvj, _⟩ := hj; rw [List.length_map] at hvj; subst hvj; obtain ⟨n, hn⟩ : ∃ n, p.jam.length = n := ⟨_, rfl⟩; unfold pV; rw [hn] at hl ⊢; clear hn
 go_enter Tryz.func52, Tryz.ntmps52
 go_upto_region 3 with (
  (with_reducible refine wpList_boxA (t := 24) (cs := #[.slice aj n cj, .int .i64 p.warm, .int .i64 p.tail, .int .i64 p.dirt]) rfl rfl rfl ?_); rintro xb w1 hx1 hx2 hx3; clear hx3; have XB := Hd hx1; have X := Hd hx2
  clear hx1 hx2)
 go_loopw [3, 4] (fun v3 t4 wr => ∃ (k m : Nat), k ≤ 12 ∧ t4 = .int .i64 ((k:Int) + 1) ∧ Hid (m = (kR n k).length) ∧ Hid (wr.ownsRow w1.heap.size 66 2 v3 m (acL (kI (kR n k)))) ∧ Hid (Ext w1 wr)) (fun _ t4 _ => 13 - (intOf t4).toNat)
 case atStart => exact ⟨0, 0, by omega, rfl, rfl, World.ownsRow_nil _ _ _ _, Below.refl _ _⟩
 case round =>
  obtain ⟨k, m, hk, rfl, HM, HA, HX⟩ := hrel
  by_cases hlt : k < 12
  {
  have i1 : (k:Int) + 1 ≤ 12 := (by omega); obtain ⟨wo, rfl⟩ : ∃ W, W = wr := ⟨wr, rfl⟩
  go_upto_region 6 with (fail)
  go_loopw [3, 5] (fun v3 t5 wr => ∃ (u m : Nat), u ≤ n ∧ t5 = .int .i64 u ∧ Hid (m = (kRU n k u).length) ∧ Hid (wr.ownsRow w1.heap.size 66 2 v3 m (acL (kI (kRU n k u)))) ∧ Hid (Ext w1 wr)) (fun _ t5 _ => n - (intOf t5).toNat)
  case atStart => exact ⟨0, m, by omega, rfl, by rw [kRU_zero]; exact HM, by rw [kRU_zero]; exact HA, HX⟩
  case round =>
   clear HM HA HX; obtain ⟨u, m, hu, rfl, HM, HA, HX⟩ := hrel; obtain ⟨a5, c5, rfl⟩ := row_form HA.out; have c1 := (XB.out.ext HX.out).cell
   by_cases hlt2 : u < n
   {
   have i2 : (u:Int) < (n:Int) := (by omega); have hm := HM.out
   have hml : m ≤ 36 := by
    have h1 := kRU_le n k u; have h2 : k * n ≤ 11 * n := Nat.mul_le_mul_right _ (by omega); omega
   by_cases h0 : u = 0
   {
   have f1 : ((u:Int) == 0) = true := by simp [h0]
   {
   have hyes := kRU_yes (n := n) (k := k) (u := u) (by unfold kQ; simp; omega); have hln : m + 1 = (kRU n k (u + 1)).length := (by rw [hyes, List.length_append, ← hm]; rfl); have hsn : acL (kI (kRU n k (u + 1))) = acL (kI (kRU n k u)) ++ [.int .i64 ((k:Int) + 1), .int .i64 u] := (by rw [hyes]; unfold kI acL; simp [acC]); clear hyes hm; (try clear h0); (try clear h12); have HSN := Hd hsn; have HLN := Hd hln; clear hsn hln
   go_wp2_with (
    at_builtin
    refine wpList_app (n := m) (m := 1) tActsR rfl rfl (v := .slice a5 m c5) rfl (owns_ext HA.out (ext_lit _ _ _)) rfl (Src.lit _ [.int .i64 ((k:Int) + 1), .int .i64 u] 1 2 rfl 66 1) (by simp [Value.oneCell']) (by omega) (Nat.le_trans HX.out.size (by simp)) ?_; rintro v' w10 t1 t2 t3; have xt := (HX.out.tr (ext_lit _ _ _)).then_only (only_grown t2) (fun b hb => (HA.out.lt b hb).1); rw [← HSN.out] at t1; clear HA HX c1; have HA := Hd t1; have HX := Hd xt; clear t1 xt
    clear t2 t3)
   go_roundw
   case rel => exact ⟨u + 1, m + 1, by omega, by go_num, HLN, HA, HX⟩
   case measure => simp [intOf] <;> omega
   }
   }
   {
   have f1 : ((u:Int) == 0) = false := by simp; omega
   by_cases h7 : (k:Int) + 1 < 7
   {
   {
   have hyes := kRU_yes (n := n) (k := k) (u := u) (by unfold kQ; simp; omega); have hln : m + 1 = (kRU n k (u + 1)).length := (by rw [hyes, List.length_append, ← hm]; rfl); have hsn : acL (kI (kRU n k (u + 1))) = acL (kI (kRU n k u)) ++ [.int .i64 ((k:Int) + 1), .int .i64 u] := (by rw [hyes]; unfold kI acL; simp [acC]); clear hyes hm; (try clear h0); (try clear h12); have HSN := Hd hsn; have HLN := Hd hln; clear hsn hln
   go_wp2_with (
    at_builtin
    refine wpList_app (n := m) (m := 1) tActsR rfl rfl (v := .slice a5 m c5) rfl (owns_ext HA.out (ext_lit _ _ _)) rfl (Src.lit _ [.int .i64 ((k:Int) + 1), .int .i64 u] 1 2 rfl 66 1) (by simp [Value.oneCell']) (by omega) (Nat.le_trans HX.out.size (by simp)) ?_; rintro v' w10 t1 t2 t3; have xt := (HX.out.tr (ext_lit _ _ _)).then_only (only_grown t2) (fun b hb => (HA.out.lt b hb).1); rw [← HSN.out] at t1; clear HA HX c1; have HA := Hd t1; have HX := Hd xt; clear t1 xt
    clear t2 t3)
   go_roundw
   case rel => exact ⟨u + 1, m + 1, by omega, by go_num, HLN, HA, HX⟩
   case measure => simp [intOf] <;> omega
   }
   }
   {
   have f2 : decide ((k:Int) + 1 < 7) = false := decide_eq_false h7
   by_cases h12 : (k:Int) + 1 = 12
   {
   have f3 : ((k:Int) + 1 == 12) = true := by simp [h12]
   {
   have hyes := kRU_yes (n := n) (k := k) (u := u) (by unfold kQ; simp; omega); have hln : m + 1 = (kRU n k (u + 1)).length := (by rw [hyes, List.length_append, ← hm]; rfl); have hsn : acL (kI (kRU n k (u + 1))) = acL (kI (kRU n k u)) ++ [.int .i64 ((k:Int) + 1), .int .i64 u] := (by rw [hyes]; unfold kI acL; simp [acC]); clear hyes hm; (try clear h0); (try clear h12); have HSN := Hd hsn; have HLN := Hd hln; clear hsn hln
   go_wp2_with (
    at_builtin
    refine wpList_app (n := m) (m := 1) tActsR rfl rfl (v := .slice a5 m c5) rfl (owns_ext HA.out (ext_lit _ _ _)) rfl (Src.lit _ [.int .i64 ((k:Int) + 1), .int .i64 u] 1 2 rfl 66 1) (by simp [Value.oneCell']) (by omega) (Nat.le_trans HX.out.size (by simp)) ?_; rintro v' w10 t1 t2 t3; have xt := (HX.out.tr (ext_lit _ _ _)).then_only (only_grown t2) (fun b hb => (HA.out.lt b hb).1); rw [← HSN.out] at t1; clear HA HX c1; have HA := Hd t1; have HX := Hd xt; clear t1 xt
    clear t2 t3)
   go_roundw
   case rel => exact ⟨u + 1, m + 1, by omega, by go_num, HLN, HA, HX⟩
   case measure => simp [intOf] <;> omega
   }
   }
   {
   have f3 : ((k:Int) + 1 == 12) = false := (by simp [h12]); have hno := kRU_no (n := n) (k := k) (u := u) (by unfold kQ; simp; omega); clear h0 h7 h12; have HNO := Hd hno; clear hno; go_wp2
   go_roundw
   case rel => exact ⟨u + 1, m, by omega, by go_num, by rw [HNO.out]; exact HM, by rw [HNO.out]; exact HA, HX⟩
   case measure => simp [intOf] <;> omega
   }
   }
   }
   }
   {
   have i2 : decide ((u:Int) < (n:Int)) = false := decide_eq_false (by omega); obtain rfl : u = n := (by omega); go_wp2
   go_roundw
   case rel => exact ⟨k + 1, m, by omega, by go_num, by rw [← kRU_end]; exact HM, by rw [← kRU_end]; exact HA, HX⟩
   case measure => simp [intOf] <;> omega
   }
  }
  { have i1 : decide ((k:Int) + 1 ≤ 12) = false := decide_eq_false (by omega); obtain rfl : k = 12 := (by omega); go_wp2; go_ret; have h1 := HA.out; rw [HM.out, kR_end] at h1; exact ⟨_, rfl, owns_weak h1 X.out.size, X.out.tr HX.out⟩ }
end Go.Proofs.YtojobdffnnibaaaGreat
namespace Go.Proofs.YtojobdffnnibaaaGreat
open Go.RowKit
set_option linter.unusedVariables false
set_option linter.unusedSimpArgs false
set_option maxRecDepth 100000 in
set_option maxHeartbeats 4000000 in
theorem rAimed_any (p : PressD) (s : StD) (g : GoalD) (vj vu vg : Value) (w : World) (hj : Truths w vj p.jam) (hu : UnIn w vu s.units) (hg : Truths w vg g.pressed) (hl : s.units.length ≤ 1000000) :
 Calls Tryz.prog 37 #[pV vj p, sV vu s, gV vg g] w fun e w' => e = .returned (.int .i64 (goErr p s g)) ∧ Ext w w' := by
 have hst := fun w1 (k : Ext w w1) => rStarted_any p s vj vu w1 (Sl.ext hj k) (hu.ext k) hl; obtain ⟨a, c, rfl, Hu⟩ := hu.form; obtain ⟨hjl, aj, cj, hvj, _⟩ := id hj; rw [List.length_map] at hvj hjl; subst hvj; obtain ⟨hgl, ag, cg, hvg, _⟩ := id hg; rw [List.length_map] at hvg hgl; subst hvg
 have hge : goErr p s g = if stErr p s ≠ 0 then stErr p s else if g.pressed.length = p.jam.length ∧ 0 ≤ g.drive ∧ g.drive ≤ 2 then 0 else 1 := by
  unfold goErr
  by_cases h : stErr p s = 0
  {
  have hlen := shaped_len (stErr_ok h).2.1
  have : aimedD s g = decide (g.pressed.length = p.jam.length ∧ 0 ≤ g.drive ∧ g.drive ≤ 2) := by
   unfold aimedD; rw [hlen, Bool.eq_iff_iff]; simp [and_assoc]
  rw [this, h]
  by_cases h2 : g.pressed.length = p.jam.length ∧ 0 ≤ g.drive ∧ g.drive ≤ 2 <;> simp [h2]
  }
  · rw [if_pos h, if_pos h]
 rw [hge]; obtain ⟨e1, he1⟩ : ∃ e, stErr p s = e := ⟨_, rfl⟩; obtain ⟨nj, hnj⟩ : ∃ n, p.jam.length = n := ⟨_, rfl⟩; obtain ⟨ng, hng⟩ : ∃ n, g.pressed.length = n := ⟨_, rfl⟩; obtain ⟨n, hn⟩ : ∃ n, s.units.length = n := ⟨_, rfl⟩; obtain ⟨gd, hgd⟩ : ∃ d, g.drive = d := ⟨_, rfl⟩; unfold pV sV at hst; rw [he1, hnj, hn] at hst; unfold pV sV gV; rw [he1, hnj, hng, hn, hgd]; rw [hnj] at hjl; rw [hng] at hgl; have HST := Hd hst; clear hst; clear hj hg hge Hu he1 hnj hng hn hgd
 go_enter Tryz.func37, Tryz.ntmps37
 go_upto_region 2 with (first
  | (with_reducible refine wpList_boxA (t := 24) (cs := #[.slice aj nj cj, .int .i64 p.warm, .int .i64 p.tail, .int .i64 p.dirt]) rfl rfl rfl ?_
     rintro xb w1 hx1 hx2 hx3; have PB := Hd hx1; have X1 := Hd hx2; clear hx1 hx2
     clear hx3)
  | (with_reducible refine wpList_boxA (t := 27) (cs := #[.int .i64 s.drive, .bool s.folder, .slice a n c, .int .i64 s.fresh]) rfl rfl rfl ?_
     rintro sb w2 hy1 hy2 hy3; have pb2 := PB.out.ext hy2; have x2 := X1.out.tr hy2; clear PB X1; have SB := Hd hy1; have PB := Hd pb2; have X1 := Hd x2; clear hy1 pb2 x2
     clear hy3 hy2)
  | (with_reducible refine wpList_boxA (t := 29) (cs := #[.int .i64 gd, .slice ag ng cg]) rfl rfl rfl ?_
     rintro gb w3 hy1 hy2 hy3; have pb2 := PB.out.ext hy2; have sb2 := SB.out.ext hy2; have x2 := X1.out.tr hy2; have c1 := pb2.cell; have c2 := sb2.cell; have c3 := hy1.cell; clear PB X1 SB; have GB := Hd hy1; have X1 := Hd x2; have PB := Hd pb2; have SB := Hd sb2; clear hy1 x2 pb2 sb2
     clear hy3 hy2)
  | (go_at_call 46
     refine (HST.out _ X1.out).mono ?_; rintro e w4 ⟨rfl, hx⟩; have pb2 := PB.out.ext hx; have gb2 := GB.out.ext hx; have x2 := X1.out.tr hx; clear c1 c2 c3 PB GB X1 hx HST SB; have c1 := pb2.cell; have c3 := gb2.cell; have X1 := Hd x2
     clear x2))
 by_cases h1 : e1 = 0
 {
 subst h1
 by_cases h2 : ng = nj
 {
 subst h2; have f1 : ((ng:Int) != (ng:Int)) = false := by simp
 by_cases h3 : gd < 0
 { have r1 : ¬ 0 ≤ gd := (by omega); go_wp2; go_ret; exact ⟨by first | rfl | simp [*], X1.out⟩ }
 {
 have r1 : 0 ≤ gd := (by omega); have f2 : decide (gd < 0) = false := decide_eq_false h3
 by_cases h4 : 2 < gd
 { have r2 : ¬ gd ≤ 2 := (by omega); clear h3; go_wp2; go_ret; exact ⟨by first | rfl | simp [*], X1.out⟩ }
 { have r2 : gd ≤ 2 := (by omega); have f3 : decide (2 < gd) = false := decide_eq_false h4; clear h3 h4; go_wp2; go_ret; exact ⟨by first | rfl | simp [*], X1.out⟩ }
 }
 }
 { have f1 : ((ng:Int) != (nj:Int)) = true := (by simp; omega); go_wp2; go_ret; exact ⟨by first | rfl | simp [*], X1.out⟩ }
 }
 { have f1 : (e1 == 0) = false := (by simp [h1]); go_wp2; go_ret; exact ⟨by first | rfl | simp [*], X1.out⟩ }
set_option maxRecDepth 100000 in
set_option maxHeartbeats 4000000 in
theorem rFulfils_any (s : StD) (g : GoalD) (vu vg : Value) (w : World) (hu : UnIn w vu s.units) (hg : Truths w vg g.pressed) (hl : g.pressed.length = s.units.length) (hl2 : s.units.length ≤ 1000000) :
 Calls Tryz.prog 39 #[sV vu s, gV vg g] w fun e w' => e = .returned (.bool (fulD g s)) ∧ Ext w w' := by
 obtain ⟨a, c, rfl, Hu⟩ := hu.form; clear hu; obtain ⟨_, ag, cg, hvg, _, hcg⟩ := hg; rw [List.length_map] at hvg hcg; subst hvg; obtain ⟨n, hn⟩ : ∃ n, s.units.length = n := ⟨_, rfl⟩; obtain ⟨us, hus⟩ : ∃ u, s.units = u := ⟨_, rfl⟩; obtain ⟨bs, hbs⟩ : ∃ u, g.pressed = u := ⟨_, rfl⟩; obtain ⟨sd, hsd⟩ : ∃ u, s.drive = u := ⟨_, rfl⟩; obtain ⟨gd, hgd⟩ : ∃ u, g.drive = u := ⟨_, rfl⟩; unfold sV gV fulD; rw [hn] at hl hl2; rw [hl] at hcg ⊢; have Hu2 := Hu.out; rw [hn] at Hu2 ⊢; rw [hus] at hn Hu2 ⊢; rw [hbs] at hl hcg ⊢; rw [hsd, hgd]; clear Hu hus hbs hsd hgd; have HU := Hd Hu2; have HCG := Hd hcg; have HN := Hd hn; have HL := Hd hl; clear Hu2 hcg hn hl
 go_enter Tryz.func39, Tryz.ntmps39
 go_upto_region 2 with (first
  | (with_reducible refine wpList_boxA (t := 27) (cs := #[.int .i64 sd, .bool s.folder, .slice a n c, .int .i64 s.fresh]) rfl rfl rfl ?_
     rintro sb w1 hx1 hx2 hx3; have SB := Hd hx1; have X1 := Hd hx2; clear hx1 hx2
     clear hx3)
  | (with_reducible refine wpList_boxA (t := 29) (cs := #[.int .i64 gd, .slice ag n cg]) rfl rfl rfl ?_
     rintro gb w2 hy1 hy2 hy3; have sb2 := SB.out.ext hy2; have x2 := X1.out.tr hy2; clear SB X1; have GB := Hd hy1; have SB := Hd sb2; have X1 := Hd x2; clear hy1 sb2 x2
     clear hy3 hy2))
 go_loopw [5] (fun t5 wr => ∃ k : Nat, k ≤ n ∧ t5 = .int .i64 k ∧ Hid ((us.take k).map (·.pr) = bs.take k) ∧ Hid (Ext w2 wr)) (fun t5 _ => n - (intOf t5).toNat)
 case atStart =>
  have h00 : (us.take 0).map (·.pr) = bs.take 0 := (by simp); exact ⟨0, Nat.zero_le _, rfl, h00, Below.refl _ _⟩
 case round =>
  obtain ⟨k, hk, rfl, HR, HX⟩ := hrel; have c2 := (SB.out.ext HX.out).cell; have c3 := (GB.out.ext HX.out).cell
  by_cases hlt : k < n
  {
  have hku : k < us.length := (by rw [HN.out]; exact hlt); have hkb : k < bs.length := (by rw [HL.out]; exact hlt); obtain ⟨b1, o1, hab, hc1⟩ := UnIn.cells HU.out (by omega); subst hab; obtain ⟨b2, o2, hag, hc2⟩ := HCG.out (by omega); subst hag; obtain ⟨_, _, _, d3, _⟩ := hc1 k hku; have d5 := hc2 k (.bool bs[k]) (by simp [hkb]); have hst := pr_step us bs k hku hkb HR.out; have hbd := pr_bad us bs k hku hkb; obtain ⟨u, hu⟩ : ∃ u, us[k].pr = u := ⟨_, rfl⟩; obtain ⟨bv, hbv⟩ : ∃ b, bs[k] = b := ⟨_, rfl⟩; rw [hu] at d3 hst hbd; rw [hbv] at d5 hst hbd; have i1 : (0:Int) ≤ (k:Int) := (by omega); have i2 : (k:Int) < (n:Int) := (by omega); have e3 := HX.out.cellSome (X1.out.cellSome d3); have e5 := HX.out.cellSome (X1.out.cellSome d5); clear hu hbv hc1 hc2 d3 d5
  go_upto_region 4 with (fail)
  go_quiet (fail)
  have xq := HX.out.tr (Ext.of_drewN wr nq); generalize wr.drewN nq = wq at *
  cases u
  {
  cases bv
  {
  have hr := hst rfl; clear hst hbd; have HR2 := Hd hr; have XQ := Hd xq; clear hr xq; go_wp2
  go_roundw
  case rel => exact ⟨k + 1, by omega, by go_num, HR2, XQ⟩
  case measure => simp [intOf] <;> omega
  }
  { have hr := hbd (by decide); clear hst hbd; have HR2 := Hd hr; have XQ := Hd xq; clear hr xq; go_wp2; go_ret; exact ⟨by rw [HR2.out, Bool.and_false]; rfl, X1.out.tr XQ.out⟩ }
  }
  {
  cases bv
  { have hr := hbd (by decide); clear hst hbd; have HR2 := Hd hr; have XQ := Hd xq; clear hr xq; go_wp2; go_ret; exact ⟨by rw [HR2.out, Bool.and_false]; rfl, X1.out.tr XQ.out⟩ }
  {
  have hr := hst rfl; clear hst hbd; have HR2 := Hd hr; have XQ := Hd xq; clear hr xq; go_wp2
  go_roundw
  case rel => exact ⟨k + 1, by omega, by go_num, HR2, XQ⟩
  case measure => simp [intOf] <;> omega
  }
  }
  }
  {
  have i2 : decide ((k:Int) < (n:Int)) = false := decide_eq_false (by omega); obtain rfl : k = n := by omega
  have hall : (us.map (·.pr) == bs) = true := by
   have h := HR.out; rw [List.take_of_length_le (by rw [HN.out]; exact Nat.le_refl _), List.take_of_length_le (by rw [HL.out]; exact Nat.le_refl _)] at h; rw [h]; simp
  have HALL := Hd hall; clear hall; go_wp2; go_ret; exact ⟨by rw [HALL.out, Bool.and_true]; rfl, X1.out.tr HX.out⟩
  }
end Go.Proofs.YtojobdffnnibaaaGreat
namespace Go.Proofs.YtojobdffnnibaaaGreat
open Go.RowKit
set_option linter.unusedVariables false
set_option linter.unusedSimpArgs false
theorem tReached : SliceT Tryz.prog 150 149 (.agg #[.int .i64 0, .bool false, .slice none 0 0, .int .i64 0, .slice none 0 0]) 5 72 := ⟨by kernel_rfl, by kernel_rfl, rfl, by decide, by decide⟩
theorem tStatesR : SliceT Tryz.prog 96 27 (.agg #[.int .i64 0, .bool false, .slice none 0 0, .int .i64 0]) 4 48 := ⟨by kernel_rfl, by kernel_rfl, rfl, by decide, by decide⟩
theorem tProgsR : SliceT Tryz.prog 97 30 (.slice none 0 0) 1 24 := ⟨by kernel_rfl, by kernel_rfl, rfl, by decide, by decide⟩
theorem tBoolsR : SliceT Tryz.prog 22 4 (.bool false) 1 1 := ⟨by kernel_rfl, by kernel_rfl, rfl, by decide, by decide⟩
section
variable {P : Program} {w : World} {ops : Array Oper} {rest : List Oper} {o : Oper} {a : Act} {Q : Exit → Act → World → Prop}
theorem wpList_buildE {t e : TypeId} {z : Value} {size bytes : Nat} (T : SliceT P t e z size bytes) (hgd : o.guard = none) (ho : o.op = .buildSlice t 0 #[])
 (h : ∀ v w', Ext w w' → w'.ownsRow w.heap.size e size v 0 [] → wpList P ops Q rest (a.put o.dst v) w') : wpList P ops Q (o :: rest) a w := by
 obtain ⟨ht, hinfo, hzs, hpos, hbyt⟩ := T; obtain ⟨i, hi, hp⟩ := Option.map_eq_some_iff.1 hinfo; simp only [Prod.mk.injEq] at hp; obtain ⟨hz, hsz, hby⟩ := hp; refine wpList_plain hgd fun K hK => ?_; unfold Oper.wp execOp
 have hr : (Instr.buildSlice t 0 #[]).run P w = .ok (.slice (some ⟨w.heap.size, 0, none⟩) 0 0) (w.alloc (.cells #[] e)) := by
  simp [Instr.buildSlice, run_underlying ht, sizeOf, typeInfo, hi, Instr.fill, newRow]; have : Array.range 0 = #[] := (by simp); rw [this]; simp
 simp only [ho, Sem.run_bind, Array.map_empty, hr, Result.andThen_ok]; refine hK _ _ (h _ _ (ext_lit w _ _) ⟨by simp, .inr ⟨w.heap.size, 0, #[], rfl, Nat.le_refl _, heap_alloc_new w _, Nat.le_refl _, Nat.zero_le _, by simp, by simp⟩⟩)
end
theorem owns_src {w : World} {B n sz : Nat} {e : TypeId} {v : Value} {xs : List Value} (h : w.ownsRow B e sz v n xs) : Src sz w v n xs := by
 have hh := h; obtain ⟨h1, ⟨hv, h0⟩ | ⟨g, cap, cur, hv, hg, hb, rest⟩⟩ := h
 · exact ⟨h1, none, 0, by rw [hv, h0], fun _ => ⟨h0, rfl⟩, fun ad e => by cases e⟩
 {
 refine ⟨h1, _, cap, hv, (fun e => by cases e), fun ad e j u hj => ?_⟩
 cases e
 exact hh.cells (by rw [hv]; rfl) j u hj
 }
/-- The cells of a state that was reached. -/
def rcC (x : StepD) (fu fb : Value) : List Value := [.int .i64 x.at_.drive, .bool x.at_.folder, fu, .int .i64 x.at_.fresh, fb]
def rcL (fu fb : Nat → Value) (l : List StepD) : List Value := (List.range l.length).flatMap fun j => rcC (l.getD j default) (fu j) (fb j)
theorem rcL_snoc (fu fb : Nat → Value) (l : List StepD) (x : StepD) (u b : Value) : rcL (upd fu l.length u) (upd fb l.length b) (l ++ [x]) = rcL fu fb l ++ rcC x u b := by
 unfold rcL; rw [List.length_append, List.length_singleton, List.range_succ, List.flatMap_append]
 congr 1
 { refine flat_congr fun j hj => ?_; have hj := List.mem_range.1 hj; rw [upd_other _ _ _ _ (by omega), upd_other _ _ _ _ (by omega)]; simp [List.getD, List.getElem?_append_left hj] }
 · simp [upd_same, List.getD]
theorem rcL_get (fu fb : Nat → Value) (l : List StepD) (i j : Nat) (hi : i < l.length) (hj : j < 5) : (rcL fu fb l)[i * 5 + j]? = (rcC l[i] (fu i) (fb i))[j]? := by
 unfold rcL; rw [flat_get (f := fun j => rcC (l.getD j default) (fu j) (fb j)) (fun _ => rfl) l.length i j hi hj]; simp [List.getD, hi]
/-- Towers that came in, or lie in a row of their own. -/
def UnK (n0 : Nat) (W : World) (v : Value) (us : List UnitD) : Prop := UnIn W v us ∧ ∀ b, v.ownBlock = some b → b < n0 ∨ ∃ cs, Blk W b cs 63
/-- What is turned is none of the towers' and actions' rows. -/
def FreeK (n0 : Nat) (W : World) (b : Nat) : Prop := n0 ≤ b ∧ ∀ cs t, Blk W b cs t → t ≠ 63 ∧ t ≠ 66
theorem UnK.only {n0 : Nat} {W W' : World} {v : Value} {us : List UnitD} {S : Nat → Prop} (h : UnK n0 W v us) (k : Only S W W') (hs : ∀ b, S b → FreeK n0 W b) : UnK n0 W' v us := by
 have hn : ∀ b, v.ownBlock = some b → ¬ S b := fun b hb hS => by
  obtain ⟨h1, h2⟩ := hs b hS
  rcases h.2 b hb with h3 | ⟨cs, h3⟩
  omega
  · exact (h2 _ _ h3).1 rfl
 refine ⟨h.1.only k hn, fun b hb => ?_⟩
 rcases h.2 b hb with h3 | ⟨cs, h3⟩
 · exact .inl h3
 · exact .inr ⟨cs, h3.only k (hn b hb)⟩
theorem UnK.ext {n0 : Nat} {W W' : World} {v : Value} {us : List UnitD} (h : UnK n0 W v us) (k : Ext W W') : UnK n0 W' v us :=
 h.only (S := fun _ => False) (Only.of_ext k) (fun _ h => h.elim)
theorem UnK.of_owns {n0 B : Nat} {W : World} {v : Value} {us : List UnitD} (h : W.ownsRow B 63 5 v us.length (uL us)) (hl : us.length ≤ 1000000) : UnK n0 W v us := by
 refine ⟨UnIn.of_owns h (by omega), fun b hb => .inr ?_⟩; obtain ⟨_, cs, h2⟩ := row_blk h b hb; exact ⟨cs, h2⟩
theorem UnK.of_in {W : World} {v : Value} {us : List UnitD} (h : UnIn W v us) (hb : ∀ b, v.ownBlock = some b → b < W.heap.size) : UnK W.heap.size W v us := ⟨h, fun b h2 => .inl (hb b h2)⟩
/-- The row of states that were reached, with their towers and the programs that lead there. -/
def RcRow (n0 : Nat) (l : List StepD) (v : Value) (W : World) : Prop :=
 ∃ fu fb : Nat → Value, W.ownsRow n0 149 5 v l.length (rcL fu fb l) ∧ ∀ j (h : j < l.length), UnK n0 W (fu j) l[j].at_.units ∧ W.ownsRow n0 66 2 (fb j) (byL l j).length (acL (byL l j))
theorem RcRow.only {n0 : Nat} {l : List StepD} {v : Value} {W W' : World} {S : Nat → Prop} (h : RcRow n0 l v W) (k : Only S W W') (hs : ∀ b, S b → FreeK n0 W b) (hv : ∀ b, v.ownBlock = some b → ¬ S b) : RcRow n0 l v W' := by
 obtain ⟨fu, fb, h1, h2⟩ := h; refine ⟨fu, fb, owns_only h1 k hv, fun j hj => ⟨(h2 j hj).1.only k hs, owns_only (h2 j hj).2 k fun b hb hS => ?_⟩⟩; obtain ⟨_, cs, h3⟩ := row_blk (h2 j hj).2 b hb; exact ((hs b hS).2 _ _ h3).2 rfl
theorem RcRow.ext {n0 : Nat} {l : List StepD} {v : Value} {W W' : World} (h : RcRow n0 l v W) (k : Ext W W') : RcRow n0 l v W' :=
 h.only (S := fun _ => False) (Only.of_ext k) (fun _ h => h.elim) (fun _ _ h => h)
/-- Which codes were seen. -/
def seenC (l : List StepD) (c : Nat) : Bool := l.any fun x => codeD x.at_ == (c : Int)
theorem seenC_snoc (l : List StepD) (x : StepD) (c : Nat) : seenC (l ++ [x]) c = (seenC l c || codeD x.at_ == (c : Int)) := by unfold seenC; rw [List.any_append]; simp
/-- A row of truths. -/
def Bits (W : World) (sb : Nat) (f : Nat → Bool) : Prop := ∃ cs : Array Value, Blk W sb cs 4 ∧ cs.size = 30000 ∧ ∀ c, c < 30000 → cs[c]? = some (.bool (f c))
theorem Bits.only {W W' : World} {sb : Nat} {f : Nat → Bool} {S : Nat → Prop} (h : Bits W sb f) (k : Only S W W') (hs : ¬ S sb) : Bits W' sb f := by
 obtain ⟨cs, h1, h2⟩ := h; exact ⟨cs, h1.only k hs, h2⟩
theorem Bits.ext {W W' : World} {sb : Nat} {f : Nat → Bool} (h : Bits W sb f) (k : Ext W W') : Bits W' sb f := h.only (S := fun _ => False) (Only.of_ext k) (fun h => h)
theorem Bits.cell {W : World} {sb : Nat} {f : Nat → Bool} (h : Bits W sb f) {c : Nat} (hc : c < 30000) : W.cell? ⟨sb, c, none⟩ = some (.bool (f c)) := by
 obtain ⟨cs, h1, _, h3⟩ := h; rw [h1.cell c, h3 c hc]
theorem Bits.blk {W : World} {sb : Nat} {f : Nat → Bool} (h : Bits W sb f) : ∃ cs, Blk W sb cs 4 ∧ cs.size = 30000 := by obtain ⟨cs, h1, h2, _⟩ := h; exact ⟨cs, h1, h2⟩
theorem Bits.of_new {W : World} {sb : Nat} (h : Blk W sb (List.replicate 30000 (Value.bool false)).toArray 4) : Bits W sb (fun _ => false) :=
 ⟨_, h, by rw [List.size_toArray, List.length_replicate], fun c hc => by rw [List.getElem?_toArray, List.getElem?_replicate, if_pos hc]⟩
theorem Bits.set {W W' : World} {sb : Nat} {f : Nat → Bool} {cs : Array Value} {c0 : Nat} (h : Bits W sb f) (hb : Blk W sb cs 4) (hW : Blk W' sb (cs.setIfInBounds c0 (.bool true)) 4) : Bits W' sb (fun c => f c || c == c0) := by
 obtain ⟨cs', h1, h2, h3⟩ := h
 have e : cs' = cs := by
  have := h1.symm.trans hb
  cases this; rfl
 subst e; refine ⟨_, hW, by simpa using h2, fun c hc => ?_⟩; rw [Array.getElem?_setIfInBounds]
 by_cases hcc : c0 = c
 · subst hcc
   simp [h2, hc]
 { rw [if_neg hcc, h3 c hc]; have : (c == c0) = false := (by simp; omega); dsimp only; rw [this, Bool.or_false] }
theorem Bits.congr {W : World} {sb : Nat} {f g : Nat → Bool} (h : Bits W sb f) (e : ∀ c, f c = g c) : Bits W sb g := by
 have : f = g := funext e; rw [← this]; exact h
/-- What the search keeps. -/
structure LyI (n0 sb xb : Nat) (pcs : Array Value) (vl : Value) (n : Nat) (w0 : World) (p : PressD) (s : StD) (l : List StepD) (v : Value) (W : World) : Prop where
 row : RcRow n0 l v W
 bits : Bits W sb (seenC l)
 press : Blk W xb pcs 24
 acts : W.ownsRow n0 66 2 vl (kindsR n).length (acL (kI (kindsR n)))
 ext : Ext w0 W
section
variable {n0 sb xb n : Nat} {pcs : Array Value} {vl : Value} {w0 : World} {p : PressD} {s : StD} {l : List StepD} {v : Value} {W : World}
theorem LyI.ext' {W' : World} (h : LyI n0 sb xb pcs vl n w0 p s l v W) (k : Ext W W') : LyI n0 sb xb pcs vl n w0 p s l v W' := ⟨h.row.ext k, h.bits.ext k, h.press.ext k, owns_ext h.acts k, h.ext.tr k⟩
theorem LyI.add {W5 W9 W10 : World} {v' vu vb : Value} {fu fb : Nat → Value} {cs : Array Value} {c0 i : Nat} {nx : StD} {k u : Int}
 (h : LyI n0 sb xb pcs vl n w0 p s l v W) (ho : RoundOk p s l) (hi : i < l.length) (hb' : Back (l ++ [⟨nx, k, u, i⟩])) (hc : codeD nx = (c0 : Int)) (hn : n0 ≤ sb) (hw : n0 = w0.heap.size)
 (hown : W.ownsRow n0 149 5 v l.length (rcL fu fb l)) (hel : ∀ j (h : j < l.length), UnK n0 W (fu j) l[j].at_.units ∧ W.ownsRow n0 66 2 (fb j) (byL l j).length (acL (byL l j)))
 (hcs : Blk W sb cs 4) (h5 : Blk W5 sb (cs.setIfInBounds c0 (.bool true)) 4) (o5 : Only (fun b => b = sb) W W5) (x9 : Ext W5 W9)
 (hun : UnK n0 W9 vu nx.units) (hby : W9.ownsRow n0 66 2 vb ((byL l i).length + 1) (acL (byL l i ++ [(k, u)])))
 (h10 : W10.ownsRow n0 149 5 v' (l.length + 1) (rcL fu fb l ++ rcC ⟨nx, k, u, i⟩ vu vb)) (o10 : Only (fun b => v.ownBlock = some b) W9 W10) :
 LyI n0 sb xb pcs vl n w0 p s (l ++ [⟨nx, k, u, i⟩]) v' W10 ∧ (∀ {x : Value} {us : List UnitD}, UnK n0 W x us → UnK n0 W10 x us) ∧ (∀ {x : Value} {m : Nat} {xs : List Value}, W.ownsRow n0 66 2 x m xs → W10.ownsRow n0 66 2 x m xs) ∧
  (∀ {b : Nat} {cs : Array Value}, Blk W b cs 149 → v.ownBlock ≠ some b → Blk W10 b cs 149) := by
 have fsb : FreeK n0 W sb := ⟨hn, fun cs' t h => by rw [blk_ty h hcs]; decide⟩; have hrb : ∀ b, v.ownBlock = some b → n0 ≤ b ∧ ∃ cs, Blk W b cs 149 := row_blk hown; have hown9 : W9.ownsRow n0 149 5 v l.length (rcL fu fb l) := owns_ext (owns_only hown o5 (fun b hb (e : b = sb) => by obtain ⟨_, cs', h2⟩ := hrb b hb; rw [e] at h2; exact absurd (blk_ty h2 hcs) (by decide))) x9; have hrb9 : ∀ b, v.ownBlock = some b → n0 ≤ b ∧ ∃ cs, Blk W9 b cs 149 := row_blk hown9
 have f9 : ∀ b, v.ownBlock = some b → FreeK n0 W9 b := fun b hb => by
  obtain ⟨h1, cs', h2⟩ := hrb9 b hb; exact ⟨h1, fun cs2 t h3 => by rw [blk_ty h3 h2]; decide⟩
 have mvu : ∀ {x : Value} {us : List UnitD}, UnK n0 W x us → UnK n0 W10 x us := fun h => ((h.only o5 (fun b (e : b = sb) => by rw [e]; exact fsb)).ext x9).only o10 f9
 have mvb9 : ∀ {x : Value} {m : Nat} {xs : List Value}, W9.ownsRow n0 66 2 x m xs → W10.ownsRow n0 66 2 x m xs := fun h => owns_only h o10 fun b hb hS => by
  obtain ⟨_, cs', h3⟩ := row_blk h b hb; exact ((f9 b hS).2 _ _ h3).2 rfl
 have mvb : ∀ {x : Value} {m : Nat} {xs : List Value}, W.ownsRow n0 66 2 x m xs → W10.ownsRow n0 66 2 x m xs := fun h => mvb9 (owns_ext (owns_only h o5 fun b hb (e : b = sb) => by
  obtain ⟨_, cs', h3⟩ := row_blk h b hb; rw [e] at h3
  exact absurd (blk_ty h3 hcs) (by decide)) x9)
 have mvk : ∀ {b : Nat} {cs' : Array Value}, Blk W b cs' 149 → v.ownBlock ≠ some b → Blk W10 b cs' 149 := fun h3 hne =>
  ((h3.only o5 (fun e => by rw [e] at h3; exact absurd (blk_ty h3 hcs) (by decide))).ext x9).only o10 hne
 refine ⟨⟨⟨upd fu l.length vu, upd fb l.length vb, ?_, fun j hj => ?_⟩, ?_, ?_, mvb h.acts, ?_⟩, mvu, mvb, mvk⟩
 · rw [rcL_snoc, List.length_append, List.length_singleton]; exact h10
 {
 rw [List.length_append, List.length_singleton] at hj
 by_cases hjl : j < l.length
 · rw [upd_other _ _ _ _ (by omega), upd_other _ _ _ _ (by omega), List.getElem_append_left hjl, byL_pre (List.prefix_append _ _) ho.back hjl]
   exact ⟨mvu (hel j hjl).1, mvb (hel j hjl).2⟩
 {
 obtain rfl : j = l.length := (by omega); rw [upd_same, upd_same, List.getElem_append_right (Nat.le_refl _), byL_add ho hi hb']; refine ⟨?_, ?_⟩
 · simpa using hun.only o10 f9
 · rw [List.length_append, List.length_singleton]; exact mvb9 hby
 }
 }
 {
 have h6 := h.bits.set hcs h5; refine ((h6.congr fun c => ?_).ext x9).only o10 fun e => ?_
 {
 rw [seenC_snoc]
 congr 1
 dsimp only; rw [hc, Bool.eq_iff_iff, beq_iff_eq, beq_iff_eq]; omega
 }
 { obtain ⟨_, cs', h2⟩ := hrb9 sb e; have h7 := h5.ext x9; exact absurd (blk_ty h2 h7) (by decide) }
 }
 {
 refine ((h.press.only o5 (fun e => ?_)).ext x9).only o10 (fun e => ?_)
 { have h3 := h.press; rw [e] at h3; exact absurd (blk_ty h3 hcs) (by decide) }
 · obtain ⟨_, cs', h2⟩ := hrb xb e
   exact absurd (blk_ty h2 h.press) (by decide)
 }
 · exact ((h.ext.then_only o5 (fun b (e : b = sb) => by omega)).tr x9).then_only o10 (fun b hb => by have := (hrb b hb).1; omega)
end
/-- The states' cells. -/
def stR (fu : Nat → Value) (l : List StepD) (q : Nat) : List Value := (List.range q).flatMap fun j => [.int .i64 (l.getD j default).at_.drive, .bool (l.getD j default).at_.folder, fu j, .int .i64 (l.getD j default).at_.fresh]
theorem stR_succ (fu : Nat → Value) (l : List StepD) (q : Nat) (h : q < l.length) : stR fu l (q + 1) = stR fu l q ++ [.int .i64 l[q].at_.drive, .bool l[q].at_.folder, fu q, .int .i64 l[q].at_.fresh] := by
 unfold stR; rw [List.range_succ, List.flatMap_append]
 congr 1
 simp [List.getD, h]
theorem stR_get (fu : Nat → Value) (l : List StepD) (i j : Nat) (hi : i < l.length) (hj : j < 4) : (stR fu l l.length)[i * 4 + j]? = ([.int .i64 l[i].at_.drive, .bool l[i].at_.folder, fu i, .int .i64 l[i].at_.fresh] : List Value)[j]? := by
 unfold stR; rw [flat_get (f := fun j => [.int .i64 (l.getD j default).at_.drive, .bool (l.getD j default).at_.folder, fu j, .int .i64 (l.getD j default).at_.fresh]) (fun _ => rfl) l.length i j hi hj]; simp [List.getD, hi]
/-- What the search answers: the states, and the programs that lead there. -/
def LyOut (n0 : Nat) (l : List StepD) (va vb : Value) (W : World) : Prop :=
 ∃ fu fb : Nat → Value, W.ownsRow n0 27 4 va l.length (stR fu l l.length) ∧ W.ownsRow n0 30 1 vb l.length ((List.range l.length).map fb) ∧ ∀ j (h : j < l.length), UnIn W (fu j) l[j].at_.units ∧ W.ownsRow n0 66 2 (fb j) (byL l j).length (acL (byL l j))
end Go.Proofs.YtojobdffnnibaaaGreat