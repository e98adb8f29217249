/- RegisterKeeps: what a reading of marks close to their places makes; the loop of a colour. -/
import Derived.Test.YtafnadaahnkcmaaDesk2
import Derived.Test.YtafnadaahnkcmaaCtl
namespace Go.Proofs.Ytafnadaahnkcmaa
open Go.RowKit
set_option linter.unusedVariables false

def kPat (n : Nat) : List Int := (List.range (n + 1)).map fun (i : Nat) => 30000 * (i : Int)
def kSeen (n : Nat) (sh : Int) (δ : Nat → Int) : List Int := (List.range (n + 1)).map fun (i : Nat) => 30000 * (i : Int) + sh + δ i
theorem kPat_len (n : Nat) : (kPat n).length = n + 1 := by simp [kPat]
theorem kSeen_len (n : Nat) (sh : Int) (δ : Nat → Int) : (kSeen n sh δ).length = n + 1 := by simp [kSeen]
theorem kPat_get (n i : Nat) (h : i < (kPat n).length) : (kPat n)[i] = 30000 * (i : Int) := by simp [kPat]
theorem kSeen_get (n : Nat) (sh : Int) (δ : Nat → Int) (i : Nat) (h : i < (kSeen n sh δ).length) : (kSeen n sh δ)[i] = 30000 * (i : Int) + sh + δ i := by simp [kSeen]

theorem kSeen_ok (n : Nat) (sh : Int) (δ : Nat → Int) (hn : n ≤ 3) (hsh : -400 ≤ sh ∧ sh ≤ 400) (hδ : ∀ j, j ≤ n → -1600 ≤ δ j ∧ δ j ≤ 1600) : SeenOk (kSeen n sh δ) := fun j hj => by
  rw [kSeen_get]
  have hj' : j < n + 1 := by rwa [kSeen_len] at hj
  have h1 := hδ j (by omega)
  refine ⟨by omega, by omega, fun h0 => ?_⟩
  rw [kSeen_get]
  have h2 := hδ (j - 1) (by omega)
  have h3 : ((j - 1 : Nat) : Int) = j - 1 := by omega
  rw [h3]
  omega

theorem filter_all {α : Type} (f : α → Bool) : ∀ l : List α, l.length ≤ (l.filter f).length → ∀ x ∈ l, f x = true := by
  intro l
  induction l with
  | nil => intro _ x hx; cases hx
  | cons y l ih =>
    intro h x hx
    have hle := List.length_filter_le f l
    by_cases hy : f y = true
    · rw [List.filter_cons_of_pos hy] at h
      simp only [List.length_cons] at h
      rcases List.mem_cons.1 hx with rfl | hx
      · exact hy
      · exact ih (by omega) x hx
    · rw [List.filter_cons_of_neg hy] at h
      simp only [List.length_cons] at h
      omega

theorem kFit (n : Nat) (sh : Int) (δ : Nat → Int) (hn : n ≤ 3) (hsh : -400 ≤ sh ∧ sh ≤ 400) (hδ : ∀ j, j ≤ n → -1600 ≤ δ j ∧ δ j ≤ 1600) :
    ∃ b, bestS (cntF (kPat n) (kSeen n sh δ) 5000) (shs 2001) = (b, ((n + 1 : Nat) : Int)) ∧ ∀ i, i ≤ n → gD (fitL (kPat n) (kSeen n sh δ) 5000 b) i = 30000 * (i : Int) + sh + δ i := by
  obtain ⟨b, c, hb, ⟨hb1, hb2⟩, hc, hmost⟩ := best_pair (kPat n) (kSeen n sh δ) 5000
  have hbd : ∀ x ∈ kSeen n sh δ, x ≤ 200000 := fun x hx => by
    obtain ⟨i, hi, rfl⟩ := List.mem_iff_getElem.1 hx
    exact (kSeen_ok n sh δ hn hsh hδ i hi).2.1
  have hm := hmost sh (by omega) (by omega)
  rw [cntL_fit _ _ _ _ hbd] at hm
  rw [cntL_fit _ _ _ _ hbd] at hc
  have hfull : hitN (kSeen n sh δ) 5000 sh (kPat n) = n + 1 := by
    unfold hitN
    rw [List.filter_eq_self.2, kPat_len]
    intro p hp
    obtain ⟨i, hi, rfl⟩ := List.mem_iff_getElem.1 hp
    rw [kPat_get]
    have hi' : i < n + 1 := by rwa [kPat_len] at hi
    refine List.any_eq_true.2 ⟨(kSeen n sh δ)[i]'(by rw [kSeen_len]; exact hi'), List.getElem_mem _, (inB_iff _ _ _).2 ?_⟩
    rw [kSeen_get]
    have := hδ i (by omega)
    omega
  have hle := hitN_le (kSeen n sh δ) 5000 b (kPat n)
  rw [kPat_len] at hle
  have hcn : c = ((n + 1 : Nat) : Int) := by omega
  have hall : (kPat n).length ≤ ((kPat n).filter fun p => (kSeen n sh δ).any fun x => inB x (p + b - 5000) (p + b + 5000)).length := by
    rw [kPat_len]
    have : hitN (kSeen n sh δ) 5000 b (kPat n) = n + 1 := by omega
    unfold hitN at this
    omega
  refine ⟨b, by rw [hb, hcn], fun i hi => ?_⟩
  have hip : i < (kPat n).length := by rw [kPat_len]; omega
  have hif : i < (fitL (kPat n) (kSeen n sh δ) 5000 b).length := by simpa [fitL] using hip
  rw [gD_lt hif]
  have e : (fitL (kPat n) (kSeen n sh δ) 5000 b)[i] = fnd (kSeen n sh δ) ((kPat n)[i] + b - 5000) ((kPat n)[i] + b + 5000) := by simp [fitL]
  rw [e]
  have h1 := filter_all _ _ hall (kPat n)[i] (List.getElem_mem _)
  rw [← fnd_lost _ _ _ hbd, bne_iff_ne] at h1
  obtain ⟨hmem, h2, h3⟩ := fnd_spec _ _ _ h1
  obtain ⟨j, hj, hje⟩ := List.mem_iff_getElem.1 hmem
  rw [← hje] at h2 h3 ⊢
  rw [kSeen_get, kPat_get] at h2 h3
  rw [kSeen_get]
  have hj' : j < n + 1 := by rwa [kSeen_len] at hj
  have h4 := hδ j (by omega)
  have : j = i := by omega
  rw [this]

theorem farL_le (B : Int) (hB : 0 ≤ B) (xs : List Int) (h : ∀ x ∈ xs, -B ≤ x ∧ x ≤ B) : farL xs ≤ B := by
  have key : ∀ (xs : List Int) (a : Int), a ≤ B → (∀ x ∈ xs, -B ≤ x ∧ x ≤ B) → xs.foldl (fun n x => max (max n x) (-x)) a ≤ B := by
    intro xs
    induction xs with
    | nil => intro a ha _; exact ha
    | cons x xs ih => intro a ha h; rw [List.foldl_cons]; refine ih _ ?_ fun y hy => h y (List.mem_cons_of_mem _ hy); have := h x (List.mem_cons_self ..); omega
  exact key xs 0 hB h

theorem kRead (d : DeskD) (n : Nat) (sh : Int) (δ : Nat → Int) (hp : d.pat = kPat n) (hw : d.win = 5000) (hl : d.limit = 1000000) (hdn : d.n = n) (hn : n ≤ 3) (hsh : -400 ≤ sh ∧ sh ≤ 400) (hδ : ∀ j, j ≤ n → -1600 ≤ δ j ∧ δ j ≤ 1600) :
    rCode d (kSeen n sh δ) = 0 ∧ rGood d (kSeen n sh δ) = true ∧ (∀ i, i < n → rErr d (kSeen n sh δ) i = δ (i + 1) - δ 0) ∧ (∀ i, i < n → rMov d (kSeen n sh δ) i = clamp (d.loop i).step (-(δ (i + 1) - δ 0 + sumL (d.q i)))) := by
  obtain ⟨b, hb, hf⟩ := kFit n sh δ hn hsh hδ
  have hB : rB d (kSeen n sh δ) = (b, ((n + 1 : Nat) : Int)) := by unfold rB; rw [hp, hw]; exact hb
  have hF : rF d (kSeen n sh δ) = fitL (kPat n) (kSeen n sh δ) 5000 b := by unfold rF; rw [hB, hp, hw]
  have hpl : d.pat.length = n + 1 := by rw [hp, kPat_len]
  have f0 := hf 0 (by omega)
  have g0 := hδ 0 (by omega)
  have hIs : rIs d (kSeen n sh δ) = true := by
    unfold rIs
    rw [hF, f0, hB, hpl]
    simp only [Bool.and_eq_true, bne_iff_ne, ne_eq, decide_eq_true_eq]
    unfold lostN
    omega
  have hE : ∀ i, i < n → rErr d (kSeen n sh δ) i = δ (i + 1) - δ 0 := fun i hi => by
    unfold rErr
    rw [hF, f0, hf (i + 1) (by omega)]
    have g1 := hδ (i + 1) (by omega)
    have p0 : gD d.pat 0 = 0 := by rw [hp, gD_lt (by rw [kPat_len]; omega), kPat_get]; simp
    have p1 : gD d.pat (i + 1) = 30000 * ((i + 1 : Nat) : Int) := by rw [hp, gD_lt (by rw [kPat_len]; omega), kPat_get]
    rw [if_pos ⟨hIs, by unfold lostN; omega⟩, p0, p1]
    omega
  refine ⟨by unfold rCode; rw [hIs]; rfl, ?_, hE, fun i hi => ?_⟩
  · unfold rGood
    rw [hIs, hB, hpl]
    have : farL (rErrs d (kSeen n sh δ) d.n) ≤ d.limit := by
      rw [hl]
      refine farL_le _ (by omega) _ fun x hx => ?_
      obtain ⟨i, hi, rfl⟩ := List.mem_map.1 hx
      have hi' : i < n := by have := List.mem_range.1 hi; omega
      rw [hE i hi']
      have g1 := hδ (i + 1) (by omega)
      omega
    simp [this]
  · unfold rMov
    have g1 := hδ (i + 1) (by omega)
    rw [hE i hi, if_pos (by unfold lostN; omega)]

/-- A colour after t copies: its error, the moves under way, all moves. -/
def ColAt (L : Loop) (e0 : Int) (t : Nat) (e : Int) (q ms : List Int) : Prop :=
  ∃ nz bl : Nat → Int, (∀ k, -L.noise ≤ nz k ∧ nz k ≤ L.noise) ∧ (∀ k, -L.blur ≤ bl k ∧ bl k ≤ L.blur) ∧ plSt L.step e0 L.dead.toNat nz bl t = (e, q) ∧ ms.length = t ∧ q = (List.replicate L.dead.toNat 0 ++ ms).drop t

theorem ColAt.start (L : Loop) (hL : L.Ok) (e0 : Int) : ColAt L e0 0 e0 (List.replicate L.dead.toNat 0) [] := by
  unfold Loop.Ok at hL
  exact ⟨fun _ => 0, fun _ => 0, fun _ => by dsimp only; omega, fun _ => by dsimp only; omega, rfl, rfl, by simp⟩

theorem plSt_congr (s e0 : Int) (D : Nat) {nz nz' bl bl' : Nat → Int} (t : Nat) (h1 : ∀ k, k < t → nz k = nz' k) (h2 : ∀ k, k < t → bl k = bl' k) : plSt s e0 D nz bl t = plSt s e0 D nz' bl' t := by
  induction t with
  | zero => rfl
  | succ t ih =>
    have h := ih (fun k hk => h1 k (by omega)) (fun k hk => h2 k (by omega))
    simp only [plSt]
    rw [h, h1 t (by omega), h2 t (by omega)]

theorem ColAt.next {L : Loop} {e0 : Int} {t : Nat} {e : Int} {q ms : List Int} (h : ColAt L e0 t e q ms) {b z u : Int} (hb : -L.blur ≤ b ∧ b ≤ L.blur) (hz : -L.noise ≤ z ∧ z ≤ L.noise) (hu : u = clamp L.step (-(e + b + sumL q))) :
    ColAt L e0 (t + 1) (e + (if L.dead.toNat ≤ t then gD (ms ++ [u]) (t - L.dead.toNat) else 0) + z) (tlQ q u) (ms ++ [u]) := by
  obtain ⟨nz, bl, hnz, hbl, hs, hm, hq⟩ := h
  have hc : plSt L.step e0 L.dead.toNat (upd nz t z) (upd bl t b) t = (e, q) := by
    rw [← hs]; exact plSt_congr _ _ _ t (fun k hk => upd_other _ _ _ _ (by omega)) (fun k hk => upd_other _ _ _ _ (by omega))
  have hall : q ++ [u] = (List.replicate L.dead.toNat 0 ++ (ms ++ [u])).drop t := by
    rw [hq, ← List.append_assoc]
    exact (List.drop_append_of_le_length (by simp; omega)).symm
  have ht := hdtl q u
  have hlt : t < (List.replicate L.dead.toNat 0 ++ (ms ++ [u])).length := by simp; omega
  rw [hall, List.drop_eq_getElem_cons hlt] at ht
  injection ht with ht1 ht2
  have hhd : hdQ q u = if L.dead.toNat ≤ t then gD (ms ++ [u]) (t - L.dead.toNat) else 0 := by
    rw [← ht1]
    by_cases hle : L.dead.toNat ≤ t
    · rw [if_pos hle, List.getElem_append_right (by simpa using hle), gD_lt (by simp; omega)]
      simp
    · rw [if_neg hle, List.getElem_append_left (by simp; omega)]
      simp
  refine ⟨upd nz t z, upd bl t b, fun k => ?_, fun k => ?_, ?_, by simp [hm], ?_⟩
  · unfold upd; split
    · exact hz
    · exact hnz k
  · unfold upd; split
    · exact hb
    · exact hbl k
  · simp only [plSt]
    rw [hc, upd_same, upd_same]
    dsimp only
    rw [← hu, hhd]
    congr 1
    omega
  · exact ht2.symm

/-- Within its bound after Dead + 1 copies, and never far. -/
theorem ColAt.holds {L : Loop} {e0 : Int} {t : Nat} {e : Int} {q ms : List Int} (h : ColAt L e0 t e q ms) (hL : L.Ok) (he : max e0 (-e0) ≤ L.step - L.blur) (ht : L.dead.toNat < t) :
    -((L.dead + 1) * L.noise + L.blur) ≤ e ∧ e ≤ (L.dead + 1) * L.noise + L.blur := by
  obtain ⟨nz, bl, hnz, hbl, hs, hm, hq⟩ := h
  have hL' := hL
  unfold Loop.Ok at hL
  obtain ⟨⟨a1, a2⟩, ⟨a3, a4⟩, ⟨a5, a6⟩, a7, a8, a9⟩ := hL
  have hd : ((L.dead.toNat : Nat) : Int) = L.dead := by omega
  have h1 := loop_holds (s := L.step) (e0 := e0) (D := L.dead.toNat) (nz := nz) (bl := bl) a3 a5 a7 hnz hbl 0 (by simp; omega) t (by omega)
  unfold eT at h1
  rw [hs, hd] at h1
  exact h1
theorem ColAt.near {L : Loop} {e0 : Int} {t : Nat} {e : Int} {q ms : List Int} (h : ColAt L e0 t e q ms) (hL : L.Ok) (he : max e0 (-e0) ≤ L.step - L.blur) (he2 : max e0 (-e0) ≤ 1000) (hd5 : L.dead ≤ 5) (hn : L.noise ≤ 50) (hb : L.blur ≤ 200) :
    -1300 ≤ e ∧ e ≤ 1300 := by
  by_cases ht : L.dead.toNat < t
  · have h1 := h.holds hL he ht
    unfold Loop.Ok at hL
    have h2 : (L.dead + 1) * L.noise ≤ 6 * 50 := Int.mul_le_mul (by omega) hn (by omega) (by omega)
    generalize (L.dead + 1) * L.noise = z at *
    omega
  · obtain ⟨nz, bl, hnz, hbl, hs, hm, hq⟩ := h
    unfold Loop.Ok at hL
    obtain ⟨⟨a1, a2⟩, ⟨a3, a4⟩, ⟨a5, a6⟩, a7, a8, a9⟩ := hL
    obtain ⟨new, h1, h2, h3⟩ := eT_later (s := L.step) (e0 := e0) (D := L.dead.toNat) (nz := nz) (bl := bl) a3 a5 a7 hnz hbl 0 t (by omega)
    have hq0 : qT L.step e0 L.dead.toNat nz bl 0 = List.replicate L.dead.toNat 0 := rfl
    have he0 : eT L.step e0 L.dead.toNat nz bl 0 = e0 := rfl
    have het : eT L.step e0 L.dead.toNat nz bl (0 + t) = e := by unfold eT; rw [Nat.zero_add, hs]
    rw [hq0, List.take_replicate, sumL_rep, he0, het] at h2 h3
    have h4 : (t : Int) * L.noise ≤ 5 * 50 := Int.mul_le_mul (by omega) hn (by omega) (by omega)
    generalize (t : Int) * L.noise = z at *
    omega
theorem ColAt.len {L : Loop} {e0 : Int} {t : Nat} {e : Int} {q ms : List Int} (h : ColAt L e0 t e q ms) : ms.length = t := by
  obtain ⟨nz, bl, h1, h2, h3, h4, h5⟩ := h
  exact h4
end Go.Proofs.Ytafnadaahnkcmaa
