/- Deeds as they come in, and what a ledger that is kept by them has. -/
import Derived.Test.YtekplfbfkfiabaaPlainKp
import Derived.Test.YtekplfbfkfiabaaBkInts
namespace Go.Proofs.Ytekplfbfkfiabaa
open Go.RowKit
set_option linter.unusedVariables false

structure DeedD where
  close : Bool
  e : EntD
  v : Value
  cnt : List Int
instance : Inhabited DeedD := ⟨⟨false, default, .slice none 0 0, []⟩⟩
def deedC (x : DeedD) : List Value := [.bool x.close, .int .i64 x.e.frm, .int .i64 x.e.to, .int .i64 x.e.amt, .int .i64 x.e.day, x.v]
theorem deedC_len (x : DeedD) : (deedC x).length = 6 := rfl
def DeedIn (w : World) (v : Value) (l : List DeedD) : Prop := StIn 6 deedC w v l ∧ ∀ x ∈ l, Ints w x.v x.cnt ∧ x.e.fits ∧ ∀ c ∈ x.cnt, I64 c
theorem DeedIn.ext {w w' : World} {v : Value} {l : List DeedD} (h : DeedIn w v l) (k : Ext w w') : DeedIn w' v l := ⟨StIn.ext deedC_len h.1 k, fun x hx => ⟨(h.2 x hx).1.ext k, (h.2 x hx).2⟩⟩
theorem DeedIn.form {w : World} {v : Value} {l : List DeedD} (h : DeedIn w v l) : ∃ a c, v = .slice a l.length c ∧ Hid (DeedIn w (.slice a l.length c) l) := by
  obtain ⟨a, c, rfl, _⟩ := StIn.form h.1
  exact ⟨a, c, rfl, h⟩
theorem DeedIn.len {w : World} {v : Value} {l : List DeedD} (h : DeedIn w v l) : l.length ≤ 9223372036854775807 := h.1.1
theorem DeedIn.cells {w : World} {a : Option Addr} {n c : Nat} {l : List DeedD} (h : DeedIn w (.slice a n c) l) (h0 : 0 < l.length) :
    ∃ b o, a = some ⟨b, o, none⟩ ∧ ∀ i (h : i < l.length), w.cell? ⟨b, o + i * 6, none⟩ = some (.bool l[i].close) ∧ w.cell? ⟨b, o + i * 6 + 1, none⟩ = some (.int .i64 l[i].e.frm) ∧ w.cell? ⟨b, o + i * 6 + 2, none⟩ = some (.int .i64 l[i].e.to) ∧ w.cell? ⟨b, o + i * 6 + 3, none⟩ = some (.int .i64 l[i].e.amt) ∧ w.cell? ⟨b, o + i * 6 + 4, none⟩ = some (.int .i64 l[i].e.day) ∧ w.cell? ⟨b, o + i * 6 + 5, none⟩ = some l[i].v := by
  obtain ⟨b, o, h1, h2⟩ := StIn.cells h.1 h0
  exact ⟨b, o, h1, fun i hi => ⟨h2 i hi 0 (by omega), h2 i hi 1 (by omega), h2 i hi 2 (by omega), h2 i hi 3 (by omega), h2 i hi 4 (by omega), h2 i hi 5 (by omega)⟩⟩

/-- What a ledger has behind n deeds. -/
structure KpI (key : Int) (l : List AccD) (n : Nat) (day : Int) (d : LedD) : Prop where
  ok : LedOk d
  nn : NN d
  rep : Rep d
  acc : d.acc = l
  key : d.key = key
  last : d.last ≤ day
  clo : d.closed ≤ day
  len : d.ents.length ≤ 41 * n
  bal : ∀ i : Nat, i < d.n → (d.at' i).stock = true → balA (i : Int) d.ents ≤ 3000 + 1000 * (n : Int)
section
variable {key : Int} {l : List AccD} {n : Nat} {day day' : Int} {d : LedD}
theorem KpI.new (hk : U64 key) (hc : checkE l = 0) : KpI key l 0 0 (newD key l) :=
  ⟨LedOk.new hk hc, NN.new key l, Rep.new key l, rfl, rfl, by show (-1 : Int) ≤ 0; omega, by show (-1 : Int) ≤ 0; omega, by show 0 ≤ 41 * 0; omega, fun i _ _ => by show (0 : Int) ≤ _; omega⟩
theorem KpI.stay (h : KpI key l n day d) (hd : day ≤ day') : KpI key l (n + 1) day' d :=
  ⟨h.ok, h.nn, h.rep, h.acc, h.key, Int.le_trans h.last hd, Int.le_trans h.clo hd, by have := h.len; omega, fun i hi hs => by have := h.bal i hi hs; push_cast; omega⟩
theorem KpI.bal0 (h : KpI key l n day d) (i : Nat) (hi : i < d.n) (hs : (d.at' i).stock = true) : 0 ≤ balA (i : Int) d.ents := by
  have := h.nn d.ents.length i hi hs
  rwa [List.take_length] at this
theorem KpI.post (h : KpI key l n day d) (hd : day ≤ day') {x : EntD} (hx : postErr d x = 0) (ha : x.amt ≤ 1000) (hxd : x.day ≤ day') : KpI key l (n + 1) day' (postD d x) := by
  refine ⟨h.ok.post hx, h.nn.post hx, h.rep.post hx, h.acc, h.key, by rw [last_post]; exact hxd, Int.le_trans h.clo hd, ?_, fun i hi hs => ?_⟩
  · have := h.len; simp [postD]; omega
  · show balA (i : Int) (d.ents ++ [_]) ≤ _
    rw [balA_snoc]
    have h1 := h.bal i hi hs
    have h2 := postErr_ok hx
    have h3 := mv_bound i x (by omega)
    dsimp only
    push_cast
    omega
theorem KpI.err (h : KpI key l n day d) (hn : n ≤ 60) (hd : day ≤ day') (h0 : 0 ≤ day' ∧ day' ≤ 100000) {x : EntD} (ha : 1 ≤ x.amt ∧ x.amt ≤ 1000) (hxd : x.day = day') : postErr d x ≠ 5 ∧ postErr d x ≠ 2 ∧ postErr d x ≠ 6 ∧ postErr d x ≠ 11 := by
  have h1 := h.len
  have h2 := h.last
  unfold postErr
  rw [if_neg (by omega)]
  split
  · decide
  split
  · decide
  rw [if_neg (by omega)]
  split
  · decide
  rw [if_neg (by omega)]
  split
  · decide
  · decide
theorem stkL_len (d : LedD) : d.stk.length ≤ d.n := stkN_len _ _
theorem KpI.close (h : KpI key l n day d) (hn : n ≤ 60) (hd : day ≤ day') (h0 : 0 ≤ day' ∧ day' ≤ 100000) {cs : List Int} (hlen : cs.length = d.stk.length) (hcs : ∀ c ∈ cs, 0 ≤ c ∧ c ≤ 2999) :
    (closeErr d day' cs = 12 ∧ day' ≤ d.closed) ∨ (closeErr d day' cs = 0 ∧ (closeF day' d [] (closeP d cs)).2.1.length = cs.length ∧ KpI key l (n + 1) day' { (closeF day' d [] (closeP d cs)).1 with closed := day' }) := by
  by_cases hc : day' ≤ d.closed
  · left
    unfold closeErr
    rw [if_neg (fun hh => hh h0), if_pos hc]
    exact ⟨rfl, hc⟩
  · right
    have h1 := h.len
    have h2 := h.ok.n1
    have h3 := stkL_len d
    obtain ⟨g1, g⟩ := close_good h.ok h0 (by omega) (Int.le_trans h.last hd) hlen (fun c hm => by have := hcs c hm; omega) (fun i hi => by
      obtain ⟨a1, a2⟩ := (stk_mem d i).1 hi
      have := h.bal i a1 a2
      have := h.bal0 i a1 a2
      omega) (by omega)
    have hz : (closeP d cs).length = d.stk.length := by unfold closeP; rw [List.length_zip, hlen, Nat.min_self]
    refine ⟨g1, by rw [g.dif]; simp [hz, hlen], ⟨g.ok.closed ⟨by omega, h0.2⟩, (g.nn h.nn).closed _, (g.rep h.rep).closed _, by rw [← h.acc]; exact g.acc, by rw [← h.key]; exact g.key, g.last, Int.le_refl _, ?_, fun i hi hs => ?_⟩⟩
    · have := g.len
      show (closeF day' d [] (closeP d cs)).1.ents.length ≤ _
      omega
    · have e1 : (closeF day' d [] (closeP d cs)).1.acc = d.acc := g.acc
      have hi' : i < d.n := by
        have : i < (closeF day' d [] (closeP d cs)).1.acc.length := hi
        rw [e1] at this; exact this
      have hs' : (d.at' i).stock = true := by
        have : (LedD.at' (closeF day' d [] (closeP d cs)).1 i).stock = true := hs
        unfold LedD.at' at this ⊢
        rw [e1] at this; exact this
      have hm : i ∈ (closeP d cs).map (·.1) := by
        unfold closeP
        rw [zip_fst _ _ hlen.symm]
        exact (stk_mem d i).2 ⟨hi', hs'⟩
      obtain ⟨p, hp, rfl⟩ := List.mem_map.1 hm
      have hb := g.bal p hp
      show balA (p.1 : Int) (closeF day' d [] (closeP d cs)).1.ents ≤ _
      have h5 := hcs p.2 (zip_fst_mem (xs := d.stk) (ys := cs) hp).2
      rw [hb]
      push_cast
      omega
end
theorem pick_q (x n : Int) (w : World) (hx : I64 x) (hn : I64 n) :
    Calls Try.prog 24 #[.int .i64 x, .int .i64 n] w fun e w' => e = .returned (.int .i64 (pick x n)) ∧ w' = w :=
  (pick_any x n w hx hn).mono fun e w' h => ⟨h.1, h.2.symm⟩
end Go.Proofs.Ytekplfbfkfiabaa
