/- register.Play. -/
import Derived.Test.YtafnadaahnkcmaaPlay
namespace Go.Proofs.Ytafnadaahnkcmaa
open Go.RowKit
set_option linter.unusedVariables false

theorem tMoms : SliceT Try.prog 41 46 (.agg #[.int .i64 0, .int .i64 0]) 2 16 := ⟨by kernel_rfl, by kernel_rfl, rfl, by decide, by decide⟩

def gD (l : List Int) (k : Nat) : Int := l.getD k 0
theorem gD_lt {l : List Int} {k : Nat} (h : k < l.length) : gD l k = l[k] := by simp [gD, h]
theorem gD_bd {l : List Int} {B : Int} (hB : 0 ≤ B) (h : ∀ x ∈ l, -B ≤ x ∧ x ≤ B) (k : Nat) : -B ≤ gD l k ∧ gD l k ≤ B := by
  unfold gD
  by_cases hk : k < l.length
  · have := h l[k] (List.getElem_mem hk); simpa [hk] using this
  · simp [hk]; omega

/-- The state of a loop that is played: the error, and the corrections that are pending. -/
def plSt (s e0 : Int) (D : Nat) (nz bl : Nat → Int) : Nat → Int × List Int
  | 0 => (e0, List.replicate D 0)
  | k + 1 =>
    let q := plSt s e0 D nz bl k
    let u := clamp s (-(q.1 + bl k + sumL q.2))
    (q.1 + (hdQ q.2 u + nz k), tlQ q.2 u)
def plMove (s e0 : Int) (D : Nat) (nz bl : Nat → Int) (k : Nat) : Int :=
  clamp s (-((plSt s e0 D nz bl k).1 + bl k + sumL (plSt s e0 D nz bl k).2))

theorem clamp_bd (s v : Int) (hs : 0 ≤ s) : -s ≤ clamp s v ∧ clamp s v ≤ s := by unfold clamp; omega
theorem plSt_facts (s e0 : Int) (D : Nat) (nz bl : Nat → Int) (hs : 0 ≤ s ∧ s ≤ 10000) (hn : ∀ k, -1000 ≤ nz k ∧ nz k ≤ 1000) (k : Nat) :
    (plSt s e0 D nz bl k).2.length = D ∧ (∀ x ∈ (plSt s e0 D nz bl k).2, -10000 ≤ x ∧ x ≤ 10000) ∧ -(11000 * k) ≤ (plSt s e0 D nz bl k).1 - e0 ∧ (plSt s e0 D nz bl k).1 - e0 ≤ 11000 * k := by
  induction k with
  | zero => simp [plSt]
  | succ k ih =>
    obtain ⟨h1, h2, h3, h4⟩ := ih
    have hc := clamp_bd s (-((plSt s e0 D nz bl k).1 + bl k + sumL (plSt s e0 D nz bl k).2)) hs.1
    simp only [plSt]
    generalize clamp s (-((plSt s e0 D nz bl k).1 + bl k + sumL (plSt s e0 D nz bl k).2)) = u at *
    generalize plSt s e0 D nz bl k = q at *
    have hall : ∀ x ∈ q.2 ++ [u], -10000 ≤ x ∧ x ≤ 10000 := fun x hx => by
      rcases List.mem_append.1 hx with hx | hx
      · exact h2 x hx
      · have : x = u := by simpa using hx
        omega
    have hh := hdtl q.2 u
    rw [hh] at hall
    have hhd := hall _ (List.mem_cons_self ..)
    have hnk := hn k
    refine ⟨by rw [tlQ_len]; exact h1, fun x hx => hall x (List.mem_cons_of_mem _ hx), ?_, ?_⟩ <;> (push_cast; omega)

theorem hdQ_bd {xs : List Int} {u B : Int} (h : ∀ x ∈ xs, -B ≤ x ∧ x ≤ B) (hu : -B ≤ u ∧ u ≤ B) : -B ≤ hdQ xs u ∧ hdQ xs u ≤ B := by
  have hall : ∀ x ∈ xs ++ [u], -B ≤ x ∧ x ≤ B := fun x hx => by
    rcases List.mem_append.1 hx with hx | hx
    · exact h x hx
    · have : x = u := by simpa using hx
      omega
  rw [hdtl] at hall
  exact hall _ (List.mem_cons_self ..)

def plCells (s e0 : Int) (D : Nat) (nz bl : Nat → Int) (k : Nat) : List Value :=
  (List.range k).flatMap fun j => [.int .i64 (plSt s e0 D nz bl j).1, .int .i64 (plMove s e0 D nz bl j)]
theorem plCells_succ (s e0 : Int) (D : Nat) (nz bl : Nat → Int) (k : Nat) :
    plCells s e0 D nz bl (k + 1) = plCells s e0 D nz bl k ++ [.int .i64 (plSt s e0 D nz bl k).1, .int .i64 (plMove s e0 D nz bl k)] := by
  simp [plCells, List.range_succ]

/-- What holds at the head of the loop's round. -/
def PlInv (w : World) (qb tb : Nat) (cs : Array Value) (s e0 : Int) (D : Nat) (nz bl : Nat → Int) (k : Nat) (v : Value) (wr : World) : Prop :=
  ∃ g, QSt wr qb g (plSt s e0 D nz bl k).2 ∧ wr.ownsRow w.heap.size 46 2 v k (plCells s e0 D nz bl k) ∧ wr.heap[tb]? = some (.cells cs 95 (0, 0)) ∧ Ext w wr ∧
    v.ownBlock ≠ some qb ∧ v.ownBlock ≠ some tb ∧ v.ownBlock ≠ some g ∧ g ≠ tb ∧ qb ≠ tb ∧ w.heap.size ≤ qb ∧ w.heap.size ≤ g

/-- The round's middle: the correction is decided. -/
def PlMid (w : World) (qb tb : Nat) (cs : Array Value) (s e0 : Int) (D : Nat) (nz bl : Nat → Int) (k : Nat) (v : Value) (wr : World) : Prop :=
  ∃ g, QSt wr qb g (plSt s e0 D nz bl (k + 1)).2 ∧ wr.ownsRow w.heap.size 46 2 v k (plCells s e0 D nz bl k) ∧ wr.heap[tb]? = some (.cells cs 95 (0, 0)) ∧ Ext w wr ∧
    v.ownBlock ≠ some qb ∧ v.ownBlock ≠ some tb ∧ v.ownBlock ≠ some g ∧ g ≠ tb ∧ qb ≠ tb ∧ w.heap.size ≤ qb ∧ w.heap.size ≤ g

theorem PlInv.mid {w : World} {qb tb : Nat} {cs : Array Value} {s e0 : Int} {D : Nat} {nz bl : Nat → Int} {k : Nat} {v : Value} {wr w2 : World} {g g' : Nat} {u : Int}
    (hq : QSt wr qb g (plSt s e0 D nz bl k).2) (ho : wr.ownsRow w.heap.size 46 2 v k (plCells s e0 D nz bl k)) (ht : wr.heap[tb]? = some (.cells cs 95 (0, 0))) (hx : Ext w wr)
    (h1 : v.ownBlock ≠ some qb) (h2 : v.ownBlock ≠ some tb) (h3 : v.ownBlock ≠ some g) (h4 : g ≠ tb) (h5 : qb ≠ tb) (h6 : w.heap.size ≤ qb) (h7 : w.heap.size ≤ g)
    (hu : u = plMove s e0 D nz bl k) (hq' : QSt w2 qb g' (tlQ (plSt s e0 D nz bl k).2 u)) (hg : g' = g ∨ wr.heap.size ≤ g') (hon : Only (fun k => k = g ∨ k = qb) wr w2) :
    PlMid w qb tb cs s e0 D nz bl k v w2 := by
  refine ⟨g', ?_, owns_only ho hon (fun k hk hs => ?_), hon.heap ht (fun hs => ?_), hx.then_only hon (fun k hs => ?_), h1, h2, ?_, ?_, h5, h6, ?_⟩
  · subst hu; exact hq'
  · rcases hs with hs | hs
    · subst hs; exact h3 hk
    · subst hs; exact h1 hk
  · rcases hs with hs | hs
    · exact h4 hs.symm
    · exact h5 hs.symm
  · rcases hs with hs | hs <;> (subst hs; assumption)
  · rcases hg with hg | hg
    · subst hg; exact h3
    · intro hk
      have := (ho.lt g' hk).2
      omega
  · rcases hg with hg | hg
    · subst hg; exact h4
    · have := blk_lt ht; omega
  · rcases hg with hg | hg
    · subst hg; exact h7
    · have := hx.size; omega

theorem PlMid.next {w : World} {qb tb : Nat} {cs : Array Value} {s e0 : Int} {D : Nat} {nz bl : Nat → Int} {k : Nat} {v v' : Value} {wr w1 w2 : World}
    (h : PlMid w qb tb cs s e0 D nz bl k v wr) (h1 : Ext wr w1) (ho' : w2.ownsRow w.heap.size 46 2 v' (k + 1) (plCells s e0 D nz bl (k + 1))) (hg : w1.grownBy w2 v.ownBlock) (hf : FreshOr w1 v v') :
    PlInv w qb tb cs s e0 D nz bl (k + 1) v' w2 := by
  obtain ⟨g, hq, ho, ht, hx, a1, a2, a3, a4, a5, a6, a7⟩ := h
  have hon : Only (fun k => v.ownBlock = some k) wr w2 := (Only.of_ext h1).tr (only_grown hg)
  have hsz := h1.size
  refine ⟨g, hq.only hon a1 a3, ho', hon.heap ht a2, hx.then_only hon (fun k hk => (ho.lt k hk).1), ?_, ?_, ?_, a4, a5, a6, a7⟩
  · rcases hf with hf | ⟨b, hb, hle⟩
    · rw [hf]; exact a1
    · rw [hb]; intro hk; cases hk; have := hq.lt.1; omega
  · rcases hf with hf | ⟨b, hb, hle⟩
    · rw [hf]; exact a2
    · rw [hb]; intro hk; cases hk; have := blk_lt ht; omega
  · rcases hf with hf | ⟨b, hb, hle⟩
    · rw [hf]; exact a3
    · rw [hb]; intro hk; cases hk; have := hq.lt.2; omega

def PlayPost (w : World) (l : Loop) (e0 : Int) (nz bl : Nat → Int) (n : Nat) (x : Ending) (w' : World) : Prop :=
  ∃ v, x = .returned (.tuple #[v, .int .i64 0]) ∧ w'.ownsRow w.heap.size 46 2 v n (plCells l.step e0 l.dead.toNat nz bl n) ∧ Ext w w'

theorem any_false {xs : List Int} {m : Int} (h : ∀ x ∈ xs, -m ≤ x ∧ x ≤ m) : (xs.any fun x => !inB x (-m) m) = false := by
  rw [List.any_eq_false]; intro x hx
  have := h x hx
  simp [inB]; omega

set_option maxHeartbeats 2000000 in
theorem play_ok (l : Loop) (e0 : Int) (ns bs : List Int) (vn vb : Value) (w : World) (hl : l.Ok) (he : -1000000 ≤ e0 ∧ e0 ≤ 1000000)
    (hn : Ints w vn ns) (hb : Ints w vb bs) (hlen : ns.length = bs.length) (h5 : ns.length ≤ 5000) (hnb : ∀ x ∈ ns, -l.noise ≤ x ∧ x ≤ l.noise) (hbb : ∀ x ∈ bs, -l.blur ≤ x ∧ x ≤ l.blur) :
    Calls Try.prog 17 #[l.val, .int .i64 e0, vn, vb] w (PlayPost w l e0 (gD ns) (gD bs) ns.length) := by
  obtain ⟨d, n, b, s⟩ := l
  have HV := Lib.hid (show (⟨d, n, b, s⟩ : Loop).err = 0 by simp [Loop.err, hl])
  unfold Loop.Ok at hl
  unfold Loop.val
  dsimp only at hl hnb hbb ⊢
  obtain ⟨⟨a1, a2⟩, ⟨a3, a4⟩, ⟨a5, a6⟩, a7, a8, a9⟩ := hl
  obtain ⟨e1, e2⟩ := he
  have HB0 := Lib.hid (any_false (xs := [e0]) (m := 1000000) (by simp; omega))
  have HB1 := Lib.hid (any_false hnb)
  have HB2 := Lib.hid (any_false hbb)
  obtain ⟨an, cn, rfl, Hn⟩ := hn.form
  obtain ⟨ab, cb, rfl, Hb⟩ := hb.form
  obtain ⟨D, rfl⟩ := Int.eq_ofNat_of_zero_le a1
  have HL := Lib.hid hlen
  have HNB := Lib.hid hnb
  have HBB := Lib.hid hbb
  have hll : (!((ns.length : Int) == (bs.length : Int))) = false := by rw [hlen]; simp
  have hl2 : ((ns.length : Int) != (bs.length : Int)) = false := by rw [hlen]; simp
  clear hn hb hlen hnb hbb
  go_enter Try.func17, Try.ntmps17
  go_wp2_with (first
    | (with_reducible refine wpList_box (v := .agg #[.int .i64 (D:Int), .int .i64 n, .int .i64 b, .int .i64 s]) rfl rfl rfl ?_
       rintro lb w1 ⟨hb1, hx1, hl1⟩
       have c0 : ∀ i, w1.cell? ⟨lb, i, none⟩ = (#[Value.int .i64 (D:Int), .int .i64 n, .int .i64 b, .int .i64 s] : Array Value)[i]? := blk_cell hb1
       have HB := Lib.hid hb1
       have HX1 := Lib.hid hx1
       clear hb1 hx1)
    | (go_at_call 36; refine (check_any ⟨D, n, b, s⟩ _).mono ?_; rintro x w2 ⟨rfl, hx2⟩; rw [HV.out]
       have c1 : ∀ i, w2.cell? ⟨lb, i, none⟩ = (#[Value.int .i64 (D:Int), .int .i64 n, .int .i64 b, .int .i64 s] : Array Value)[i]? := blk_cell (hx2.blk HB.out)
       have HX2 := Lib.hid (HX1.out.tr hx2)
       have HB' := Lib.hid (hx2.blk HB.out)
       clear hx2))
  refine (beyond_any [e0] _ 1000000 _ (Sl.lit1 _ _ _ _) (by omega)).mono ?_
  rintro x w3 ⟨rfl, hx3⟩
  rw [HB0.out]
  have c3 : ∀ i, w3.cell? ⟨lb, i, none⟩ = (#[Value.int .i64 (D:Int), .int .i64 n, .int .i64 b, .int .i64 s] : Array Value)[i]? := blk_cell (hx3.blk ((ext_lit _ _ _).blk HB'.out))
  have HX3 : Hid (Ext w w3) := (HX2.out.tr (ext_lit _ _ _)).tr hx3
  have HB3 := Lib.hid (hx3.blk ((ext_lit w2 _ _).blk HB'.out))
  clear c0 c1 hx3 HB' HX2
  go_wp2_with fail
  refine (beyond_any ns _ n _ (Hn.out.ext HX3.out) (by omega)).mono ?_
  rintro x w4 ⟨rfl, hx4⟩
  rw [HB1.out]
  have c4 : ∀ i, w4.cell? ⟨lb, i, none⟩ = (#[Value.int .i64 (D:Int), .int .i64 n, .int .i64 b, .int .i64 s] : Array Value)[i]? := blk_cell (hx4.blk HB3.out)
  have HX4 : Hid (Ext w w4) := HX3.out.tr hx4
  have HB4 := Lib.hid (hx4.blk HB3.out)
  clear c3 hx4 HB3 HX3
  go_wp2_with fail
  refine (beyond_any bs _ b _ (Hb.out.ext HX4.out) (by omega)).mono ?_
  rintro x w5 ⟨rfl, hx5⟩
  rw [HB2.out]
  have c5 : ∀ i, w5.cell? ⟨lb, i, none⟩ = (#[Value.int .i64 (D:Int), .int .i64 n, .int .i64 b, .int .i64 s] : Array Value)[i]? := blk_cell (hx5.blk HB4.out)
  have HX5 : Hid (Ext w w5) := HX4.out.tr hx5
  have HB5 := Lib.hid (hx5.blk HB4.out)
  clear c4 hx5 HB4 HX4
  go_wp2_with fail
  refine (start_any ⟨D, n, b, s⟩ D _ (by omega) rfl).mono ?_
  rintro x w6 ⟨qb, g, rfl, hq, hqb, hg, hx6⟩
  simp only [ctl]
  have HX6 : Hid (Ext w w6) := HX5.out.tr hx6
  have HQ := Lib.hid hq
  have hsz := HX6.out.size
  have hsz5 := HX5.out.size
  clear c5 hx6 HB5 hq
  go_wp2_with (first
    | (with_reducible refine wpList_alloc rfl rfl Try.zeroValue95 ?_
       rintro tb w7 ⟨hb7, hx7, hl7⟩
       have HX7 : Hid (Ext w w7) := HX6.out.tr hx7
       have HB7 := Lib.hid hb7
       have HQ7 : Hid (QSt w7 qb g (List.replicate D 0)) := HQ.out.ext hx7
       have HL7 : Hid (qb < tb ∧ g < tb) := by have := HQ.out.lt; constructor <;> omega
       clear hb7 hx7)
    | (with_reducible refine wpList_storeB (b := tb) (cells := #[.int .i64 (D:Int), .int .i64 n, .int .i64 b, .int .i64 s, .pointer (some ⟨qb, 0, none⟩)]) rfl rfl ?hx ?hy HB7.out ?hi ?hold ?h1 ?h))
  case hi => kernel_rfl
  case hold => rfl
  case h1 => simp [Value.oneCell']
  case h =>
  rintro w8 hb8 ho8
  have HX8 : Hid (Ext w w8) := HX7.out.then_only ho8 (fun k (hk : k = tb) => by omega)
  have HB8 := Lib.hid hb8
  have HQ8 : Hid (QSt w8 qb g (List.replicate D 0)) := HQ7.out.only ho8 (fun (hk : qb = tb) => by have := HL7.out; omega) (fun (hk : g = tb) => by have := HL7.out; omega)
  clear hb8 ho8 HB7 HQ7 HX7 HQ HX6
  go_wp2_with fail
  have I0 : PlInv w qb tb #[.int .i64 (D:Int), .int .i64 n, .int .i64 b, .int .i64 s, .pointer (some ⟨qb, 0, none⟩)] s e0 D (gD ns) (gD bs) 0 (.slice none 0 0) w8 :=
    ⟨g, HQ8.out, World.ownsRow_nil _ _ _ _, HB8.out, HX8.out, by simp [Value.ownBlock], by simp [Value.ownBlock], by simp [Value.ownBlock], by have := HL7.out; omega, by have := HL7.out; omega, by omega, by omega⟩
  have I0' := Lib.hid I0
  clear I0 HQ8 HB8 HX8
  go_loopw [1, 12, 54] (fun t1 v t wr => ∃ k : Nat, k ≤ ns.length ∧ t = .int .i64 k ∧ t1 = .int .i64 (plSt s e0 D (gD ns) (gD bs) k).1 ∧
      PlInv w qb tb #[.int .i64 (D:Int), .int .i64 n, .int .i64 b, .int .i64 s, .pointer (some ⟨qb, 0, none⟩)] s e0 D (gD ns) (gD bs) k v wr) (fun _ _ t _ => ns.length - (intOf t).toNat)
  case atStart => exact ⟨0, Nat.zero_le _, rfl, rfl, I0'.out⟩
  case round =>
    obtain ⟨k, hk, rfl, rfl, hinv⟩ := hrel
    by_cases hlt : k < ns.length
    · obtain ⟨g9, i1, i2, i3, i4, i5, i6, i7, i8, i9, i10, i11⟩ := hinv
      have hlt2 : k < bs.length := by have := HL.out; omega
      obtain ⟨fl, fb, fe1, fe2⟩ := plSt_facts s e0 D (gD ns) (gD bs) (by omega) (fun k => by have := gD_bd a3 HNB.out k; omega) k
      obtain ⟨gn1, gn2⟩ := gD_bd a3 HNB.out k
      obtain ⟨gb1, gb2⟩ := gD_bd a5 HBB.out k
      obtain ⟨b1, o1, rfl, hc1⟩ := Hn.out.cells (by omega)
      obtain ⟨b2, o2, rfl, hc2⟩ := Hb.out.cells (by omega)
      have c1 := i4.cellSome (hc1 k hlt)
      have c2 := i4.cellSome (hc2 k hlt2)
      rw [← gD_lt hlt] at c1
      rw [← gD_lt hlt2] at c2
      have ct : ∀ i, wr.cell? ⟨tb, i, none⟩ = (#[Value.int .i64 (D:Int), .int .i64 n, .int .i64 b, .int .i64 s, .pointer (some ⟨qb, 0, none⟩)] : Array Value)[i]? := blk_cell i3
      have j1 : (0:Int) ≤ (k:Int) := by omega
      have j2 : (k:Int) < (ns.length:Int) := by omega
      have j3 : (k:Int) < (bs.length:Int) := by omega
      have w1' : IntKind.i64.wrap ((plSt s e0 D (gD ns) (gD bs) k).1 + gD bs k) = (plSt s e0 D (gD ns) (gD bs) k).1 + gD bs k := i64_eq _ (by omega)
      have W1 := Lib.hid w1'
      have HM := fun (u : Int) (g' : Nat) (w2 : World) hu hq' hg hon => Lib.hid (PlInv.mid (u := u) (g' := g') (w2 := w2) i1 i2 i3 i4 i5 i6 i7 i8 i9 i10 i11 hu hq' hg hon)
      have HQ := Lib.hid i1
      have I9 := Lib.hid i9
      have hd := decide_any ⟨D, n, b, s⟩ qb g9 (plSt s e0 D (gD ns) (gD bs) k).2 ((plSt s e0 D (gD ns) (gD bs) k).1 + gD bs k) true wr.drew (i1.ext (Ext.of_drewN wr 1)) (by omega) fb (by omega) ⟨a8, a9⟩
      unfold ctl at hd
      dsimp only at hd
      have HD := Lib.hid hd
      have FB := Lib.hid fb
      have N5 := Lib.hid (blk_lt i3)
      clear hd
      have FL := Lib.hid fl
      have N1 := Lib.hid i8
      have N2 := Lib.hid (World.block_lt_of_cell? w _ (hc2 k hlt2))
      have N3 := Lib.hid i10
      have N4 := Lib.hid i11
      clear hc1 hc2 i1 i2 i3 i4 i5 i6 i7 i8 i9 i10 i11 fl fb w1'
      go_wp2
      have w1' := W1.out
      go_region_held3 (fun wx => (∀ i, wx.cell? ⟨tb, i, none⟩ = (#[Value.int .i64 (D:Int), .int .i64 n, .int .i64 b, .int .i64 s, .pointer (some ⟨qb, 0, none⟩)] : Array Value)[i]?) ∧ wx.cell? ⟨b2, o2 + k, none⟩ = some (.int .i64 (gD bs k)))
        ((first | (with_reducible exact ⟨st, sb⟩) | (refine ⟨?_, ?_⟩ <;> (simp only [World.cell?_drew]; with_reducible assumption))))
        ((first | (
          go_at_call 40
          refine HD.out.mono ?_
          rintro x wd ⟨u, gq, hu, rfl, hq', hg', hon⟩
          have hon' : Only (fun k => k = g9 ∨ k = qb) wr wd := (Only.of_ext (Ext.of_drewN wr 1)).tr hon
          have st : ∀ i, wd.cell? ⟨tb, i, none⟩ = (#[Value.int .i64 (D:Int), .int .i64 n, .int .i64 b, .int .i64 s, .pointer (some ⟨qb, 0, none⟩)] : Array Value)[i]? := fun i =>
            (World.cell?_of_block (a := ⟨tb, i, none⟩) (hon'.block tb N5.out (fun hs => hs.elim (fun h => N1.out h.symm) (fun h => I9.out h.symm)))).trans (ct i)
          have sb : wd.cell? ⟨b2, o2 + k, none⟩ = some (.int .i64 (gD bs k)) := hon'.cell c2 (fun hs => by have := N2.out; have := N3.out; have := N4.out; rcases hs with h | h <;> (simp only at h; omega))
          have HMid := HM u gq wd hu hq' hg' hon'
          have HU := Lib.hid hu
          clear hu hq' hg' hon hon')))
      go_split_ands
      have hu' : u = plMove s e0 D (gD ns) (gD bs) k := HU.out.trans (if_pos trivial)
      obtain ⟨hh1, hh2⟩ := hdQ_bd (u := u) (B := 10000) FB.out (by rw [hu']; have := clamp_bd s (-((plSt s e0 D (gD ns) (gD bs) k).1 + gD bs k + sumL (plSt s e0 D (gD ns) (gD bs) k).2)) (by omega); unfold plMove; omega)
      have HU' := Lib.hid hu'
      obtain ⟨gm, m1, m2, m3, m4, m5⟩ := HMid.out
      have M2 := Lib.hid m2
      have M4 := Lib.hid m4.size
      clear ct c1 c2 hu' m1 m2 m3 m4 m5 w1'
      go_wp2_with (
        at_builtin
        refine wpList_app tMoms rfl rfl (v := u12) rfl (M2.out.alloc _) rfl (Src.lit wd [.int .i64 (plSt s e0 D (gD ns) (gD bs) k).1, .int .i64 u] 1 2 rfl 46 1) (by simp [Value.oneCell']) (by omega) (by have := M4.out; simp; omega) ?_
        rintro v' w10 h1 h2 h3
        have HN : Hid (PlInv w qb tb #[.int .i64 (D:Int), .int .i64 n, .int .i64 b, .int .i64 s, .pointer (some ⟨qb, 0, none⟩)] s e0 D (gD ns) (gD bs) (k + 1) v' w10) :=
          HMid.out.next (ext_lit _ _ _) (by rw [plCells_succ, ← HU'.out]; exact h1) h2 h3
        clear h1 h2 h3
      )
      go_roundw
      case rel => exact ⟨k + 1, by omega, by go_num, by rw [HU'.out]; rfl, HN.out⟩
      case measure => simp [intOf]; omega
    · obtain ⟨g9, i1, i2, i3, i4, i5⟩ := hinv
      have hkk : k = ns.length := by omega
      have I2 := Lib.hid i2
      have I4 := Lib.hid i4
      clear i1 i2 i3 i4 i5
      go_wp2
      go_ret2
      subst hkk
      exact ⟨_, rfl, I2.out, I4.out⟩
end Go.Proofs.Ytafnadaahnkcmaa
