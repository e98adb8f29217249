/- RegisterKeeps: a round of the statement, in plain words. -/
import Derived.Test.YtafnadaahnkcmaaKeep1
namespace Go.Proofs.Ytafnadaahnkcmaa
open Go.RowKit
set_option linter.unusedVariables false

theorem newErr_ok {pat : List Int} {l : List Loop} {win limit : Int} (h : newErr pat l win limit = 0) : (2 ≤ pat.length ∧ pat.length ≤ 12) ∧ (∀ x ∈ l, x.Ok) ∧ (l.length : Int) = pat.length - 1 ∧ GoodP pat win ∧ (0 ≤ limit ∧ limit ≤ 1000000) := by
  unfold newErr at h
  split at h
  · omega
  · rename_i h1
    split at h
    · omega
    · rename_i h2
      split at h
      · omega
      · rename_i h3
        split at h
        · omega
        · rename_i h4
          refine ⟨Classical.not_not.1 h1, fun x hx => Classical.byContradiction fun hn => h2 ⟨x, hx, hn⟩, Classical.not_not.1 h3, Classical.byContradiction fun hn => h4 (.inl hn), Classical.byContradiction fun hn => h4 (.inr hn)⟩
/-- A new desk is right. -/
theorem DOk.new {pat : List Int} {l : List Loop} {win limit : Int} (h : newErr pat l win limit = 0) : DOk (newD pat l win limit) := by
  obtain ⟨⟨h1, h2⟩, h3, h4, h5, h6⟩ := newErr_ok h
  have hl : ∀ i (hi : i < l.length), (newD pat l win limit).loop i = l[i] := fun i hi => by simp [newD, DeskD.loop, List.getD, hi]
  have hq : ∀ i (hi : i < l.length), (newD pat l win limit).q i = List.replicate l[i].dead.toNat 0 := fun i hi => by simp [newD, DeskD.q, List.getD, hi]
  have hn : (newD pat l win limit).n = l.length := rfl
  exact {
    p1 := h1
    p2 := h2
    pn := by rw [hn]; show l.length + 1 = pat.length; omega
    qn := by rw [hn]; simp [newD]
    good := h5
    lim := h6
    ok := fun i hi => by rw [hn] at hi; rw [hl i hi]; exact h3 _ (List.getElem_mem hi)
    ql := fun i hi => by
      rw [hn] at hi; rw [hl i hi, hq i hi, List.length_replicate]
      have := h3 _ (List.getElem_mem hi)
      unfold Loop.Ok at this; omega
    qb := fun i hi x hx => by
      rw [hn] at hi; rw [hq i hi] at hx
      have := List.eq_of_mem_replicate hx
      omega }

theorem kPat_good (n : Nat) (hn : n ≤ 3) : GoodP (kPat n) 5000 := by
  refine ⟨by omega, fun j hj => ?_⟩
  rw [kPat_get]
  have hj' : j < n + 1 := by rwa [kPat_len] at hj
  refine ⟨by omega, by omega, fun h0 => ?_⟩
  rw [kPat_get]
  omega
theorem kNew (n : Nat) (ls : List Loop) (h1 : 1 ≤ n) (h3 : n ≤ 3) (hl : ls.length = n) (hok : ∀ i (h : i < ls.length), ls[i].Ok) : newErr (kPat n) ls 5000 1000000 = 0 := by
  unfold newErr
  rw [if_neg (by rw [kPat_len]; omega), if_neg (fun ⟨x, hx, hn⟩ => by obtain ⟨i, hi, rfl⟩ := List.mem_iff_getElem.1 hx; exact hn (hok i hi)), if_neg (by rw [kPat_len]; omega), if_neg (fun h => by
    rcases h with h | h
    · exact h (kPat_good n h3)
    · omega)]

theorem lpL_get (ls : List Loop) (n i j : Nat) (hi : i < n) (hj : j < 4) : (lpL ls n)[i * 4 + j]? = (lpC (ls.getD i default))[j]? :=
  flat_get (f := fun i => lpC (ls.getD i default)) (fun _ => rfl) n i j hi hj
/-- The row of loops, as New takes it. -/
theorem lps_in {σ : Nat → Nat} {r : Nat} {w : World} {v : Value} {n : Nat} {ls : List Loop} (h : Row σ r w 36 4 v n (lpL ls n)) (hl : ls.length = n) (hn : n ≤ 3) : LoopsIn w v ls := by
  obtain ⟨a, c, rfl⟩ := row_form h.1
  subst hl
  refine ⟨by omega, a, c, rfl, fun h0 => ?_⟩
  obtain ⟨g, c', hv⟩ := row_pos h.1 h0
  cases hv
  refine ⟨g, 0, rfl, fun i hi j hj => ?_⟩
  have h1 := lpL_get ls ls.length i j hi hj
  have h2 : (ls.getD i default) = ls[i] := by simp [List.getD, hi]
  rw [h2] at h1
  have h3 : ∃ u, (lpC ls[i])[j]? = some u := ⟨_, List.getElem?_eq_getElem (by simpa [lpC] using hj)⟩
  obtain ⟨u, hu⟩ := h3
  rw [hu] at h1
  have h4 := h.1.cells rfl (i * 4 + j) u h1
  rw [addr0] at h4
  rw [Nat.zero_add, h4]
  unfold lpC at hu
  rw [← hu]
  simp

theorem tdiv_bd (x p : Int) (hp : 0 ≤ p) (h : -1000 ≤ x ∧ x ≤ 1000) : -p ≤ (x * p).tdiv 1000 ∧ (x * p).tdiv 1000 ≤ p := by
  have h1 : -(1000 * p) ≤ x * p ∧ x * p ≤ 1000 * p := ⟨by have := Int.mul_le_mul_of_nonneg_right h.1 hp; omega, by have := Int.mul_le_mul_of_nonneg_right h.2 hp; omega⟩
  generalize x * p = y at *
  have h2 := Int.mul_tdiv_add_tmod y 1000
  have h3 := Int.tmod_lt_of_pos y (show (0:Int) < 1000 by omega)
  have h4 := Int.tmod_lt_of_pos (-y) (show (0:Int) < 1000 by omega)
  rw [Int.neg_tmod] at h4
  generalize y.tdiv 1000 = q at *
  generalize y.tmod 1000 = r at *
  omega

theorem tdiv3_bd (y : Int) (h : -1000 ≤ y ∧ y ≤ 1000) : -400 ≤ y.tdiv 3 ∧ y.tdiv 3 ≤ 400 := by
  have h2 := Int.mul_tdiv_add_tmod y 3
  have h3 := Int.tmod_lt_of_pos y (show (0:Int) < 3 by omega)
  have h4 := Int.tmod_lt_of_pos (-y) (show (0:Int) < 3 by omega)
  rw [Int.neg_tmod] at h4
  omega

theorem kPat_cell (n j : Nat) (h : j ≤ n) : ((kPat n).map (Value.int .i64))[j]? = some (.int .i64 (30000 * (j : Int))) := by
  simp [kPat, show j < n + 1 by omega]
theorem mpI_cell (f : Nat → Int) (n j : Nat) (h : j < n) : (mpI f n)[j]? = some (.int .i64 (f j)) := by
  simp [mpI, h]
theorem mpV_cell (f : Nat → Value) (n j : Nat) (h : j < n) : ((List.range n).map f)[j]? = some (f j) := by
  simp [h]

/-- The loops and the errors at first that the statement makes. -/
def LsOk (p : Int) (ls : List Loop) (es : Nat → Int) : Prop :=
  ∀ i (h : i < ls.length), ls[i].Ok ∧ ls[i].dead ≤ 5 ∧ ls[i].noise ≤ 50 ∧ ls[i].blur = 2 * p ∧ max (es i) (-es i) ≤ ls[i].step - ls[i].blur ∧ max (es i) (-es i) ≤ 1000

theorem LsOk.snoc {p : Int} {ls : List Loop} {es : Nat → Int} {k : Nat} (h : LsOk p ls es) (hk : ls.length = k) (x : Loop) (e : Int) (h1 : x.Ok) (h2 : x.dead ≤ 5) (h3 : x.noise ≤ 50) (h4 : x.blur = 2 * p) (h5 : max e (-e) ≤ x.step - x.blur) (h6 : max e (-e) ≤ 1000) : LsOk p (ls ++ [x]) (upd es k e) := fun i hi => by
  by_cases hik : i < ls.length
  · rw [List.getElem_append_left hik, upd_other _ _ _ _ (by omega)]
    exact h i hik
  · have hi' : i = k := by rw [List.length_append] at hi; simp at hi; omega
    subst hi'
    have : (ls ++ [x])[i] = x := by simp [← hk]
    rw [this, upd_same]
    exact ⟨h1, h2, h3, h4, h5, h6⟩

/-- What is seen in a round. -/
def kDl (es nb : Nat → Int) (key : Int) (j : Nat) : Int := if j = 0 then key else es (j - 1) + nb (j - 1)
theorem kDl_zero (es nb : Nat → Int) (key : Int) : kDl es nb key 0 = key := rfl
theorem kDl_succ (es nb : Nat → Int) (key : Int) (i : Nat) : kDl es nb key (i + 1) = es i + nb i := by simp [kDl]
theorem kSeen_succ (n : Nat) (sh : Int) (δ : Nat → Int) : kSeen (n + 1) sh δ = kSeen n sh δ ++ [30000 * ((n : Int) + 1) + sh + δ (n + 1)] := by
  unfold kSeen; rw [List.range_succ, List.map_append]; simp

/-- The first j are new. -/
def fA {α : Type} (f g : Nat → α) (j : Nat) : Nat → α := fun i => if i < j then f i else g i
theorem fA_zero {α : Type} (f g : Nat → α) : fA f g 0 = g := by funext i; simp [fA]
theorem fA_upd {α : Type} (f g : Nat → α) (j : Nat) : upd (fA f g j) j (f j) = fA f g (j + 1) := by
  funext i
  unfold upd fA
  by_cases h : i = j
  · subst h; simp
  · rw [if_neg h]
    by_cases h2 : i < j
    · rw [if_pos h2, if_pos (by omega)]
    · rw [if_neg h2, if_neg (by omega)]
theorem fA_at {α : Type} (f g : Nat → α) (j : Nat) : fA f g j j = g j := by simp [fA]
theorem fA_lt {α : Type} (f g : Nat → α) {n i : Nat} (h : i < n) : fA f g n i = f i := by simp [fA, h]
theorem upd_upd {α : Type} (f : Nat → α) (j : Nat) (x y : α) : upd (upd f j x) j y = upd f j y := by
  funext i; unfold upd; split <;> rfl

theorem upd_self {α : Type} (f : Nat → α) (j : Nat) : upd f j (f j) = f := by funext i; unfold upd; split <;> simp_all

/-- While the colours are gone through, from the world w0 on. -/
def LInv (B n : Nat) (ls : List Loop) (v7 v8 v9 v10 : Value) (σk : Nat → Nat) (w0 : World) (es : Nat → Int) (ms : Nat → List Int) (w : World) : Prop :=
  ∃ mv σ, KSt B w n n n n ls es ms mv v7 v8 v9 v10 σ ∧ (∀ b, b < w0.heap.size → σ b = σk b) ∧ Only (fun b => σk b ≠ 0) w0 w
section
variable {B n : Nat} {ls : List Loop} {v7 v8 v9 v10 : Value} {σk : Nat → Nat} {w0 w w' : World} {es : Nat → Int} {ms : Nat → List Int}
theorem LInv.start {mv : Nat → Value} (h : KSt B w n n n n ls es ms mv v7 v8 v9 v10 σk) : LInv B n ls v7 v8 v9 v10 σk w es ms w := ⟨mv, σk, h, fun _ _ => rfl, Only.refl _ _⟩
theorem LInv.ext (h : LInv B n ls v7 v8 v9 v10 σk w0 es ms w) (k : Ext w w') : LInv B n ls v7 v8 v9 v10 σk w0 es ms w' := by
  obtain ⟨mv, σ, h1, h2, h3⟩ := h
  exact ⟨mv, σ, h1.ext k, h2, h3.tr (Only.of_ext k)⟩
theorem Only.then' {S T : Nat → Prop} {a b c : World} (h : Only T a b) (k : Only S b c) (hS : ∀ k, k < a.heap.size → S k → T k) : Only T a c :=
  ⟨k.os.trans h.os, k.tape.trans h.tape, k.output.trans h.output, Nat.le_trans h.size k.size, fun i hi hs => (k.block i (Nat.lt_of_lt_of_le hi h.size) (fun hSi => hs (hS i hi hSi))).trans (h.block i hi hs)⟩
theorem LInv.err {b i : Nat} {x : Int} (h : LInv B n ls v7 v8 v9 v10 σk w0 es ms w) (hb : v9.ownBlock = some b) (hi : i < n) (o : Only (fun k => k = b) w w') (hown : w'.ownsRow 0 3 1 v9 n ((mpI es n).set i (.int .i64 x))) :
    LInv B n ls v7 v8 v9 v10 σk w0 (upd es i x) ms w' := by
  obtain ⟨mv, σ, h1, h2, h3⟩ := h
  refine ⟨mv, σ, h1.setErr hb hi o hown, h2, h3.then' o fun k hk e => ?_⟩
  have h4 := h1.err.2 b hb
  have h5 := h2 k hk
  subst e
  omega
theorem LInv.move {σ : Nat → Nat} {mv : Nat → Value} {wx w4 w5 : World} {i b C : Nat} {x : Int} {v' : Value} (h : KSt B w n n n n ls es ms mv v7 v8 v9 v10 σ) (h2 : ∀ b, b < w0.heap.size → σ b = σk b) (h3 : Only (fun b => σk b ≠ 0) w0 w) (hi : i < n) (hx : Ext w wx)
    (ho : w4.ownsRow C 3 1 v' ((ms i).length + 1) ((ms i).map (.int .i64) ++ [.int .i64 x])) (hg : wx.grownBy w4 (mv i).ownBlock) (hf : FreshOr wx (mv i) v')
    (hb : v10.ownBlock = some b) (o5 : Only (fun k => k = b) w4 w5) (hown : w5.ownsRow 0 22 1 v10 n (((List.range n).map mv).set i v')) :
    ∃ σ', KSt B w5 n n n n ls es (upd ms i (ms i ++ [x])) (upd mv i v') v7 v8 v9 v10 σ' ∧ (∀ b, b < w0.heap.size → σ' b = σk b) ∧ Only (fun b => σk b ≠ 0) w0 w5 := by
  obtain ⟨k1, k2, k3⟩ := h.move hi hx ho hg hf hb o5 hown
  have hs := h3.size
  exact ⟨_, k1, fun b hb => (k2 b (by omega)).trans (h2 b hb), h3.then' k3 fun k hk hS h0 => hS ((h2 k hk).trans h0)⟩
end

/-- All that is so at the head of a copy: the desk, the colours. -/
structure KInv (n t : Nat) (ls : List Loop) (e0 : Nat → Int) (p : Int) (d : DeskD) (es : Nat → Int) (ms : Nat → List Int) : Prop where
  ok : DOk d
  pat : d.pat = kPat n
  win : d.win = 5000
  lim : d.limit = 1000000
  loops : d.loops = ls
  cop : d.copies.length = t
  col : ∀ i, i < n → ColAt (ls.getD i default) (e0 i) t (es i) (d.q i) (ms i)

section
variable {n t : Nat} {ls : List Loop} {e0 : Nat → Int} {p : Int} {d : DeskD} {es : Nat → Int} {ms : Nat → List Int}
theorem ls_get {i : Nat} (hi : i < ls.length) : ls.getD i default = ls[i] := by simp [List.getD, hi]
theorem LsOk.at {i : Nat} (h : LsOk p ls e0) (hl : ls.length = n) (hi : i < n) : (ls.getD i default).Ok ∧ (ls.getD i default).dead ≤ 5 ∧ (ls.getD i default).noise ≤ 50 ∧ (ls.getD i default).blur = 2 * p ∧ max (e0 i) (-e0 i) ≤ (ls.getD i default).step - (ls.getD i default).blur ∧ max (e0 i) (-e0 i) ≤ 1000 := by
  subst hl
  rw [ls_get hi]; exact h i hi
theorem KInv.start (h1 : 1 ≤ n) (h3 : n ≤ 3) (hl : ls.length = n) (hls : LsOk p ls e0) : KInv n 0 ls e0 p (newD (kPat n) ls 5000 1000000) e0 (fun _ => []) where
  ok := DOk.new (kNew n ls h1 h3 hl fun i hi => (hls i hi).1)
  pat := rfl
  win := rfl
  lim := rfl
  loops := rfl
  cop := rfl
  col := fun i hi => by
    have hi' : i < ls.length := by omega
    have hq : (newD (kPat n) ls 5000 1000000).q i = List.replicate (ls.getD i default).dead.toNat 0 := by simp [newD, DeskD.q, List.getD, hi']
    rw [hq]
    exact ColAt.start _ (hls.at hl hi).1 _

theorem KInv.near (h : KInv n t ls e0 p d es ms) (hl : ls.length = n) (hls : LsOk p ls e0) (hp : p ≤ 100) {i : Nat} (hi : i < n) : -1300 ≤ es i ∧ es i ≤ 1300 := by
  obtain ⟨a1, a2, a3, a4, a5, a6⟩ := hls.at hl hi
  exact (h.col i hi).near a1 a5 a6 a2 a3 (by omega)

/-- What is read. -/
theorem KInv.read (h : KInv n t ls e0 p d es ms) (hl : ls.length = n) (h3 : n ≤ 3) (hls : LsOk p ls e0) (hp : 0 ≤ p ∧ p ≤ 100) {sh key : Int} {nb : Nat → Int} (hsh : -400 ≤ sh ∧ sh ≤ 400) (hk : -p ≤ key ∧ key ≤ p) (hnb : ∀ i, i < n → -p ≤ nb i ∧ nb i ≤ p) :
    SeenOk (kSeen n sh (kDl es nb key)) ∧ rCode d (kSeen n sh (kDl es nb key)) = 0 ∧ rGood d (kSeen n sh (kDl es nb key)) = true ∧
    (∀ i, i < n → rErr d (kSeen n sh (kDl es nb key)) i = es i + nb i - key) ∧ (∀ i, i < n → rMov d (kSeen n sh (kDl es nb key)) i = clamp (ls.getD i default).step (-(es i + (nb i - key) + sumL (d.q i)))) := by
  have hδ : ∀ j, j ≤ n → -1600 ≤ kDl es nb key j ∧ kDl es nb key j ≤ 1600 := fun j hj => by
    cases j with
    | zero => rw [kDl_zero]; omega
    | succ i =>
      rw [kDl_succ]
      have h1 := h.near hl hls hp.2 (i := i) (by omega)
      have h2 := hnb i (by omega)
      omega
  have hdn : d.n = n := by unfold DeskD.n; rw [h.loops, hl]
  obtain ⟨r1, r2, r3, r4⟩ := kRead d n sh (kDl es nb key) h.pat h.win h.lim hdn h3 hsh hδ
  refine ⟨kSeen_ok n sh _ h3 hsh hδ, r1, r2, fun i hi => ?_, fun i hi => ?_⟩
  · rw [r3 i hi, kDl_zero, kDl_succ]
  · rw [r4 i hi, kDl_zero, kDl_succ]
    have : d.loop i = ls.getD i default := by unfold DeskD.loop; rw [h.loops]
    rw [this]
    congr 1
    omega

/-- The move that comes to bear. -/
theorem ColAt.head {L : Loop} {e0 : Int} {t : Nat} {e : Int} {q ms : List Int} (h : ColAt L e0 t e q ms) (u : Int) : hdQ q u = if L.dead.toNat ≤ t then gD (ms ++ [u]) (t - L.dead.toNat) else 0 := by
  obtain ⟨nz, bl, hnz, hbl, hs, hm, hq⟩ := h
  have hall : q ++ [u] = (List.replicate L.dead.toNat 0 ++ (ms ++ [u])).drop t := by
    rw [hq, ← List.append_assoc]
    exact (List.drop_append_of_le_length (by simp; omega)).symm
  have ht := hdtl q u
  have hlt : t < (List.replicate L.dead.toNat 0 ++ (ms ++ [u])).length := by simp; omega
  rw [hall, List.drop_eq_getElem_cons hlt] at ht
  injection ht with ht1 ht2
  rw [← ht1]
  by_cases hle : L.dead.toNat ≤ t
  · rw [if_pos hle, List.getElem_append_right (by simpa using hle), gD_lt (by simp; omega)]
    simp
  · rw [if_neg hle, List.getElem_append_left (by simp; omega)]
    simp
theorem kHd_bd {q : List Int} {u : Int} (hq : ∀ x ∈ q, -10000 ≤ x ∧ x ≤ 10000) (hu : -10000 ≤ u ∧ u ≤ 10000) : -10000 ≤ hdQ q u ∧ hdQ q u ≤ 10000 := by
  cases q with
  | nil => exact hu
  | cons x q => exact hq x (List.mem_cons_self ..)
theorem KInv.head (h : KInv n t ls e0 p d es ms) (hl : ls.length = n) (seen : List Int) {i : Nat} (hi : i < n) : -10000 ≤ (if (ls.getD i default).dead.toNat ≤ t then gD (ms i ++ [rMov d seen i]) (t - (ls.getD i default).dead.toNat) else 0) ∧ (if (ls.getD i default).dead.toNat ≤ t then gD (ms i ++ [rMov d seen i]) (t - (ls.getD i default).dead.toNat) else 0) ≤ 10000 := by
  have hdn : d.n = n := by unfold DeskD.n; rw [h.loops, hl]
  rw [← (h.col i hi).head]
  exact kHd_bd (h.ok.qb i (by omega)) (rMov_bd h.ok i (by omega))

/-- A copy later. -/
theorem KInv.next (h : KInv n t ls e0 p d es ms) (hl : ls.length = n) (hls : LsOk p ls e0) {key : Int} {nb z : Nat → Int} {seen : List Int} (hk : -p ≤ key ∧ key ≤ p) (hnb : ∀ i, i < n → -p ≤ nb i ∧ nb i ≤ p)
    (hm : ∀ i, i < n → rMov d seen i = clamp (ls.getD i default).step (-(es i + (nb i - key) + sumL (d.q i)))) (hz : ∀ i, i < n → -(ls.getD i default).noise ≤ z i ∧ z i ≤ (ls.getD i default).noise) {es' : Nat → Int} {ms' : Nat → List Int}
    (hes : ∀ i, i < n → es' i = es i + (if (ls.getD i default).dead.toNat ≤ t then gD (ms i ++ [rMov d seen i]) (t - (ls.getD i default).dead.toNat) else 0) + z i) (hms : ∀ i, i < n → ms' i = ms i ++ [rMov d seen i]) :
    KInv n (t + 1) ls e0 p (readD d seen) es' ms' where
  ok := h.ok.read seen
  pat := h.pat
  win := h.win
  lim := h.lim
  loops := h.loops
  cop := by show (d.copies ++ [_]).length = _; rw [List.length_append, h.cop]; rfl
  col := fun i hi => by
    obtain ⟨a1, a2, a3, a4, a5, a6⟩ := hls.at hl hi
    have hdn : d.n = n := by unfold DeskD.n; rw [h.loops, hl]
    have hq : (readD d seen).q i = tlQ (d.q i) (rMov d seen i) := by
      show (qsAt d seen d.n).getD i [] = _
      rw [qsAt_get d seen d.n i (by omega), if_pos (by omega)]
    rw [hq, hes i hi, hms i hi]
    exact (h.col i hi).next (b := nb i - key) (by have := hnb i hi; omega) (hz i hi) (hm i hi)
end
end Go.Proofs.Ytafnadaahnkcmaa
