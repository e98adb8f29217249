/- press.machine.decoded. -/
import Derived.Test.YtojobdffnnibaaaGreatJ12
import Derived.Test.YtojobdffnnibaaaGreatJ6
import Derived.Test.YtojobdffnnibaaaGreatActsC
namespace Go.Proofs.YtojobdffnnibaaaGreat
open Go.RowKit
set_option linter.unusedVariables false
set_option linter.unusedSimpArgs false

theorem and_i64 (a k : Nat) (ha : a < 9223372036854775808) (hk : k < 16) : bits .and .i64 (a : Int) (k : Int) = ((a &&& k : Nat) : Int) := by
  have hx : a &&& k ≤ k := Nat.and_le_right
  have h1 : (BitVec.ofInt 64 (a : Int)).toNat = a := by
    rw [BitVec.ofInt_natCast, BitVec.toNat_ofNat]; exact Nat.mod_eq_of_lt (by omega)
  have h2 : (BitVec.ofInt 64 (k : Int)).toNat = k := by
    rw [BitVec.ofInt_natCast, BitVec.toNat_ofNat]; exact Nat.mod_eq_of_lt (by omega)
  show IntKind.i64.wrap ((BitVec.ofInt 64 (a : Int) &&& BitVec.ofInt 64 (k : Int)).toNat : Int) = _
  rw [BitVec.toNat_and, h1, h2]
  exact i64_eq _ (by omega)
theorem and_pow (a i : Nat) : a &&& 2 ^ i = 2 ^ i * (a / 2 ^ i % 2) := by
  apply Nat.eq_of_testBit_eq
  intro j
  rw [Nat.testBit_and, Nat.testBit_two_pow]
  have h2 : a / 2 ^ i % 2 = (a.testBit i).toNat := by rw [Nat.testBit_eq_decide_div_mod_eq]; have := Nat.mod_two_eq_zero_or_one (a / 2 ^ i); rcases this with h | h <;> rw [h] <;> rfl
  rw [h2]
  by_cases hij : i = j
  · subst hij
    cases h : a.testBit i
    · simp
    · simp [Nat.testBit_two_pow_self]
  · cases h : a.testBit i
    · simp [hij]
    · simp [hij, Nat.testBit_two_pow]
theorem bit_is (a k : Nat) (i : Nat) (ha : a < 9223372036854775808) (hi : i < 4) (hk : k = 2 ^ i) : (bits .and .i64 (a : Int) (k : Int) == (k : Int)) = (a / 2 ^ i % 2 == 1) := by
  have hk16 : k < 16 := by
    have : i = 0 ∨ i = 1 ∨ i = 2 ∨ i = 3 := by omega
    rcases this with rfl | rfl | rfl | rfl <;> omega
  rw [and_i64 a k ha hk16, hk, and_pow]
  have hp : 0 < 2 ^ i := Nat.pow_pos (by decide)
  generalize 2 ^ i = q at *
  rcases Nat.mod_two_eq_zero_or_one (a / q) with h | h
  · rw [h, Nat.mul_zero]
    have : ¬ (((0 : Nat) : Int) = (q : Int)) := by omega
    simp [this]
    omega
  · rw [h, Nat.mul_one]
    simp

section
variable {P : Program} {w : World} {ops : Array Oper} {rest : List Oper} {o : Oper} {a : Act} {Q : Exit → Act → World → Prop} {K : Act → World → Prop} {E : Prop}
theorem step_makeN {t e : TypeId} {z : Value} {size bytes : Nat} (T : SliceT P t e z size bytes) (hgd : o.guard = none) {x y : Operand} (ho : o.op = .makeSlice t x y) {n : Nat}
    (hx : a.eval x = .int .i64 n) (hy : a.eval y = .int .i64 n) (hN : bytes * n ≤ 140737488355328)
    (h : ∀ w1, w1.ownsRow w.heap.size e size (.slice (some ⟨w.heap.size, 0, none⟩) n n) n (madeCells z.cells (n * size)).toList → Ext w w1 → K (a.put o.dst (.slice (some ⟨w.heap.size, 0, none⟩) n n)) w1) :
    if Region.wanted o (yielded ops a.tmps) = true then Oper.wp P o a w K Q else E := by
  have hw : Region.wanted o (yielded ops a.tmps) = true := by simp [Region.wanted, hgd]
  rw [if_pos hw]
  obtain ⟨i, hi, hp⟩ := Option.map_eq_some_iff.1 T.info
  simp only [Prod.mk.injEq] at hp
  obtain ⟨hz, hsz, hby⟩ := hp
  have hm : n ≤ maxLen := by
    have := Nat.le_mul_of_pos_left n T.byt
    unfold maxLen; omega
  obtain ⟨w', hrun, r1, r2⟩ := run_make_full (P := P) w w.heap.size t e i z size T.ht hi hz hsz .i64 .i64 n (by rw [hby]; omega) hm (Nat.le_refl _)
  unfold Oper.wp
  simp [execOp, ho, hx, hy, hrun, Result.andThen]
  exact h w' r1 (Ext.only (only_grown (v := .slice none 0 0) r2) (fun b hb => by cases hb))
theorem step_boxA (hgd : o.guard = none) {t : TypeId} {x : Operand} (ho : o.op = .box t x) {v : Value} (hx : a.eval x = v) {cs : Array Value} (hv : v.cells = cs)
    (h : ∀ b w1, Blk w1 b cs t → Ext w w1 → w.heap.size ≤ b → K (a.put o.dst (.pointer (some ⟨b, 0, none⟩))) w1) :
    if Region.wanted o (yielded ops a.tmps) = true then Oper.wp P o a w K Q else E := by
  have hw : Region.wanted o (yielded ops a.tmps) = true := by simp [Region.wanted, hgd]
  rw [if_pos hw]
  subst hv
  have hr : (execOp a.eval o).run P w = .ok (.value (.pointer (some ⟨w.heap.size, 0, none⟩))) (w.alloc (.cells v.cells t)) := by
    unfold execOp; rw [ho]; simp only [hx]; rfl
  unfold Oper.wp; rw [hr]
  exact h _ _ (newB w v.cells t).1 (newB w v.cells t).2.1 (newB w v.cells t).2.2
end
theorem MOw.setRow {B : Nat} {w w' : World} {mb pb ub c : Nat} {p : PressD} {s : StD} {vj : Value} (h : MOw B w mb pb ub c p s vj) {us : List UnitD} (hl : us.length = s.units.length)
    (ho : w'.ownsRow B 82 5 (.slice (some ⟨ub, 0, none⟩) s.units.length c) s.units.length (uL us)) (k : Only (fun b => b = ub) w w') : MOw B w' mb pb ub c p { s with units := us } vj := by
  rcases ho.2 with ⟨hv, _⟩ | ⟨g, cap, cur, hv, _, hb, h1, h2, h3, h4⟩
  · cases hv
  cases hv
  exact ⟨by dsimp only; rw [hl]; exact h.bm.only k (fun e => h.mu e), h.bp.only k (fun e => h.pu e), ⟨cur, hb, by dsimp only; rw [hl]; exact ⟨h1, h2, h3⟩, by dsimp only; rw [hl]; exact h4⟩, Sl.only h.jm k (fun b hb e => by have := h.jl b hb; have := h.lu; omega), h.jl, h.lm, h.lp, h.lu⟩
/-- k towers of a number are written. -/
def decK (n c k : Nat) : StD := ⟨((c % 3 : Nat) : Int), c / 3 % 2 == 1, (List.range n).map fun j => if j < k then decU (c / 6 / 16 ^ j) else ⟨false, false, false, false, 0⟩, 0⟩
theorem decK_len (n c k : Nat) : (decK n c k).units.length = n := by simp [decK]
theorem decK_zero (n c : Nat) : (decK n c 0).units = List.replicate n ⟨false, false, false, false, 0⟩ := by
  unfold decK
  dsimp only
  apply List.ext_getElem
  · simp
  · intro i h1 h2; simp
theorem decK_end (n c : Nat) : decK n c n = decD n c := by
  unfold decK decD
  congr 1
  exact List.map_congr_left fun j hj => if_pos (List.mem_range.1 hj)
theorem decK_set (n c k : Nat) (h : k < n) : (decK n c k).units.set k (decU (c / 6 / 16 ^ k)) = (decK n c (k + 1)).units := by
  unfold decK
  dsimp only
  apply List.ext_getElem
  · simp
  · intro i h1 h2
    rw [List.getElem_set]
    simp only [List.getElem_map, List.getElem_range]
    by_cases hi : k = i
    · rw [if_pos hi, if_pos (by omega), hi]
    · rw [if_neg hi]
      by_cases h : i < k
      · rw [if_pos h, if_pos (by omega)]
      · rw [if_neg h, if_neg (by omega)]

set_option maxRecDepth 100000 in
set_option maxHeartbeats 4000000 in
theorem decoded_any {B mb pb ub c : Nat} {p : PressD} {s : StD} {vj : Value} (w : World) (h : MOw B w mb pb ub c p s vj) (hl : s.units.length ≤ 3) (h1 : 1 ≤ s.units.length) (x : Int) (hx : I64 x) :
    Calls Tryz.prog 48 #[.pointer (some ⟨mb, 0, none⟩), .int .i64 x] w fun e w' =>
      (x < 0 ∧ e = .returned (.tuple #[.pointer none, .bool false]) ∧ Ext w w') ∨
      (∃ k : Nat, x = k ∧ ∃ m u, e = .returned (.tuple #[.pointer (some ⟨m, 0, none⟩), .bool (decOk s.units.length k)]) ∧ MOw B w' m pb u s.units.length p (decD s.units.length k) vj ∧ Ext w w') := by
  obtain ⟨n, hn⟩ : ∃ n, s.units.length = n := ⟨_, rfl⟩
  rw [hn] at hl h1 ⊢
  have H0 := Lib.hid h
  have HN := Lib.hid hn
  have HX := Lib.hid hx
  clear h hn hx
  go_enter Tryz.func48, Tryz.ntmps48
  by_cases hx0 : x < 0
  · have i1 : x < 0 := hx0
    go_wp2
    go_ret2
    exact .inl ⟨hx0, rfl, Below.refl _ _⟩
  · have i1 : decide (x < 0) = false := decide_eq_false hx0
    obtain ⟨k, rfl⟩ : ∃ k : Nat, x = k := ⟨x.toNat, by omega⟩
    have hk := HX.out
    unfold I64 at hk
    have hkb : k < 9223372036854775808 := by omega
    clear hk hx0
    have t1 : (k:Int).tmod 3 = ((k % 3 : Nat) : Int) := by rw [Int.tmod_eq_emod_of_nonneg (by omega)]; omega
    have t2 : ((IntKind.i64.wrap ((k:Int) / 3)).tmod 2 == 1) = (k / 3 % 2 == 1) := by
      have e : (IntKind.i64.wrap ((k:Int) / 3)).tmod 2 = ((k / 3 % 2 : Nat) : Int) := by
        rw [i64_eq _ (by omega), Int.tmod_eq_emod_of_nonneg (by omega)]; omega
      rw [e]
      rcases Nat.mod_two_eq_zero_or_one (k / 3) with h | h <;> rw [h] <;> rfl
    obtain ⟨b2, hb2⟩ : ∃ b, (k / 3 % 2 == 1) = b := ⟨_, rfl⟩
    obtain ⟨z1, hz1⟩ : ∃ z : Int, ((k % 3 : Nat) : Int) = z := ⟨_, rfl⟩
    obtain ⟨z3, hz3⟩ : ∃ z : Int, IntKind.i64.wrap ((k:Int) / 3) = z := ⟨_, rfl⟩
    rw [hz1] at t1
    rw [hb2, hz3] at t2
    obtain ⟨z4, hz4⟩ : ∃ z : Int, z3.tmod 2 = z := ⟨_, rfl⟩
    rw [hz4] at t2
    have T1 := Lib.hid t1
    have T2 := Lib.hid t2
    have T3 := Lib.hid hz3
    have T4 := Lib.hid hz4
    have HB2 := Lib.hid hb2
    have HZ1 := Lib.hid hz1
    clear t1 t2 hz3 hz4 hb2 hz1
    go_upto_region 3 with (fail)
    have hbm := H0.out.bm
    rw [HN.out] at hbm
    have xd : Ext w w.drew := (Below.refl _ w).drew
    refine wp_region_K (fun wx => ∀ j, wx.cell? ⟨mb, j, none⟩ = (#[.pointer (some ⟨pb, 0, none⟩), .int .i64 s.drive, .bool s.folder, .slice (some ⟨ub, 0, none⟩) n c, .int .i64 s.fresh] : Array Value)[j]?) 21 (by kernel_rfl) (hbm.ext xd).cell (fun hHeld => ?_)
    generalize w.drew = wA at *
    have XC := Lib.hid xd
    have BM := Lib.hid hbm
    clear xd hbm
    refine kT (i := 0) (v := ?_) rfl (fun _ _ _ h => h) (Or.inl ⟨by rfl, ?_⟩) hHeld ?_
    rotate_left
    · intro w hSw; (try dsimp only at hSw); go_simp; (try with_reducible rfl)
    try simp only [kA, kB, kC, kD, kE]
    refine kT (i := 1) (v := ?_) rfl (fun _ _ _ h => h) (Or.inl ⟨by rfl, ?_⟩) hHeld ?_
    rotate_left
    · intro w hSw; (try dsimp only at hSw); go_simp; (try with_reducible rfl)
    try simp only [kA, kB, kC, kD, kE]
    refine kT (i := 2) (v := ?_) rfl (fun _ _ _ h => h) (Or.inl ⟨by rfl, ?_⟩) hHeld ?_
    rotate_left
    · intro w hSw; (try dsimp only at hSw); go_simp; (try with_reducible rfl)
    try simp only [kA, kB, kC, kD, kE]
    refine kT (i := 3) (v := ?_) rfl (fun _ _ _ h => h) (Or.inl ⟨by rfl, ?_⟩) hHeld ?_
    rotate_left
    · intro w hSw; (try dsimp only at hSw); go_simp; (try with_reducible rfl)
    try simp only [kA, kB, kC, kD, kE]
    refine kT (i := 4) (v := ?_) rfl (fun _ _ _ h => h) (Or.inl ⟨by rfl, ?_⟩) hHeld ?_
    rotate_left
    · intro w hSw; (try dsimp only at hSw); go_simp; (try with_reducible rfl)
    try simp only [kA, kB, kC, kD, kE]
    refine kT (i := 5) (v := ?_) rfl (fun _ _ _ h => h) (Or.inl ⟨by rfl, ?_⟩) hHeld ?_
    rotate_left
    · intro w hSw; (try dsimp only at hSw); go_simp; (try with_reducible rfl)
    try simp only [kA, kB, kC, kD, kE]
    refine kT (i := 6) (v := ?_) rfl (fun _ _ _ h => h) (Or.inl ⟨by rfl, ?_⟩) hHeld ?_
    rotate_left
    · intro w hSw; (try dsimp only at hSw); go_simp; (try with_reducible rfl)
    try simp only [kA, kB, kC, kD, kE]
    refine kT (i := 7) (v := ?_) rfl (fun _ _ _ h => h) (Or.inl ⟨by rfl, ?_⟩) hHeld ?_
    rotate_left
    · intro w hSw; (try dsimp only at hSw); go_simp; (try with_reducible rfl)
    try simp only [kA, kB, kC, kD, kE]
    refine kT (i := 8) (v := ?_) rfl (fun _ _ _ h => h) (Or.inl ⟨by rfl, ?_⟩) hHeld ?_
    rotate_left
    · intro w hSw; (try dsimp only at hSw); go_simp; (try with_reducible rfl)
    try simp only [kA, kB, kC, kD, kE]
    refine kT (i := 9) (v := ?_) rfl (fun _ _ _ h => h) (Or.inl ⟨by rfl, ?_⟩) hHeld ?_
    rotate_left
    · intro w hSw; (try dsimp only at hSw); go_simp; (try with_reducible rfl)
    try simp only [kA, kB, kC, kD, kE]
    refine kT (i := 10) (v := ?_) rfl (fun _ _ _ h => h) (Or.inl ⟨by rfl, ?_⟩) hHeld ?_
    rotate_left
    · intro w hSw; (try dsimp only at hSw); go_simp; (try with_reducible rfl)
    try simp only [kA, kB, kC, kD, kE]
    refine kT (i := 11) (v := ?_) rfl (fun _ _ _ h => h) (Or.inl ⟨by rfl, ?_⟩) hHeld ?_
    rotate_left
    · intro w hSw; (try dsimp only at hSw); go_simp; (try with_reducible rfl)
    try simp only [kA, kB, kC, kD, kE]
    refine kT (i := 12) (v := ?_) rfl (fun _ _ _ h => h) (Or.inl ⟨by rfl, ?_⟩) hHeld ?_
    rotate_left
    · intro w hSw; (try dsimp only at hSw); go_simp; (try with_reducible rfl)
    try simp only [kA, kB, kC, kD, kE]
    refine kT (i := 13) (v := ?_) rfl (fun _ _ _ h => h) (Or.inl ⟨by rfl, ?_⟩) hHeld ?_
    rotate_left
    · intro w hSw; (try dsimp only at hSw); go_simp; (try with_reducible rfl)
    try simp only [kA, kB, kC, kD, kE]
    refine kT (i := 14) (v := ?_) rfl (fun _ _ _ h => h) (Or.inl ⟨by rfl, ?_⟩) hHeld ?_
    rotate_left
    · intro w hSw; (try dsimp only at hSw); go_simp; (try with_reducible rfl)
    try simp only [kA, kB, kC, kD, kE]
    refine kT (i := 15) (v := ?_) rfl (fun _ _ _ h => h) (Or.inl ⟨by rfl, ?_⟩) hHeld ?_
    rotate_left
    · intro w hSw; (try dsimp only at hSw); go_simp; (try with_reducible rfl)
    try simp only [kA, kB, kC, kD, kE]
    rw [T1.out, T3.out, T4.out, T2.out]
    refine wpAnyK_ready (rs := [16]) (by kernel_rfl) (by simp) ?_
    refine AllReadyK.consL (i := 16) rfl (fun K hK => ?_) ?_
    · refine step_makeN (n := n) tUnits rfl rfl rfl rfl (by omega) ?_
      intro wB hown hx
      have hmu : (madeCells (Value.agg #[.bool false, .bool false, .bool false, .bool false, .int .i64 0]).cells (n * 5)).toList = uL (List.replicate n ⟨false, false, false, false, 0⟩) := made_units n ⟨h1, hl⟩
      rw [hmu] at hown
      obtain ⟨u2, hu2⟩ : ∃ u, wA.heap.size = u := ⟨_, rfl⟩
      have lu2 : w.heap.size ≤ u2 := by rw [← hu2]; exact XC.out.size
      rw [hu2] at hown ⊢
      replace XC := Lib.hid (XC.out.tr hx)
      clear hx hmu hu2
      have OW := Lib.hid hown
      have LU := Lib.hid lu2
      clear hown lu2
      refine hK.out _ _ (fun _ => (BM.out.ext XC.out).cell) (fun hHeld2 => ?_)
      clear hK K
      try clear hHeld
      have hHeld := hHeld2 (by decide)
      clear hHeld2
      try simp only [kA, kB, kC, kD, kE]
      refine kT (i := 17) (v := ?_) rfl (fun _ _ _ h => h) (Or.inl ⟨by rfl, ?_⟩) hHeld ?_
      rotate_left
      · intro w hSw; (try dsimp only at hSw); go_simp; (try with_reducible rfl)
      try simp only [kA, kB, kC, kD, kE]
      refine kT (i := 18) (v := ?_) rfl (fun _ _ _ h => h) (Or.inl ⟨by rfl, ?_⟩) hHeld ?_
      rotate_left
      · intro w hSw; (try dsimp only at hSw); go_simp; (try with_reducible rfl)
      try simp only [kA, kB, kC, kD, kE]
      refine wpAnyK_ready (rs := [19]) (by kernel_rfl) (by simp) ?_
      refine AllReadyK.consL (i := 19) rfl (fun K hK => ?_) ?_
      · refine step_boxA (cs := #[.pointer (some ⟨pb, 0, none⟩), .int .i64 z1, .bool b2, .slice (some ⟨u2, 0, none⟩) n n, .int .i64 0]) rfl rfl rfl rfl ?_
        intro m wC hb hx hsz
        have ow := owns_ext OW.out hx
        have lm : w.heap.size ≤ m := Nat.le_trans XC.out.size hsz
        replace XC := Lib.hid (XC.out.tr hx)
        clear hx hsz OW
        have MB := Lib.hid hb
        have OW := Lib.hid ow
        have LM := Lib.hid lm
        clear hb ow lm
        refine hK.out _ _ (fun _ => (BM.out.ext XC.out).cell) (fun hHeld2 => ?_)
        clear hK K
        try clear hHeld
        have hHeld := hHeld2 (by decide)
        clear hHeld2
        try simp only [kA, kB, kC, kD, kE]
        refine kT (i := 20) (v := ?_) rfl (fun _ _ _ h => h) (Or.inl ⟨by rfl, ?_⟩) hHeld ?_
        rotate_left
        · intro w hSw; (try dsimp only at hSw); go_simp; (try with_reducible rfl)
        try simp only [kA, kB, kC, kD, kE]
        refine wpAnyK_done (by kernel_rfl) ?_ _
        have hm0 : MOw B wC m pb u2 n p (decK n k 0) vj := by
          refine ⟨?_, H0.out.bp.ext XC.out, ?_, Sl.ext H0.out.jm XC.out, H0.out.jl, ?_, H0.out.lp, ?_⟩
          · show Blk wC m #[_, .int .i64 ((k % 3 : Nat) : Int), .bool (k / 3 % 2 == 1), .slice (some ⟨u2, 0, none⟩) (decK n k 0).units.length n, .int .i64 0] _
            rw [decK_len, HB2.out, HZ1.out]; exact MB.out
          · rw [decK_zero, List.length_replicate]
            rcases OW.out.2 with ⟨hv, _⟩ | ⟨g, cap, cur, hv, _, hb, q1, q2, q3, q4⟩
            · cases hv
            · cases hv
              exact ⟨cur, hb, ⟨q1, q2, q3⟩, q4⟩
          · have := H0.out.lm; have := H0.out.bm.lt; have := LM.out; omega
          · have := H0.out.lm; have := H0.out.bm.lt; have := LU.out; omega
        have d := MB.out.cell
        clear OW BM MB
        have M0 := Lib.hid hm0
        clear hm0
        go_upto_region 6 with (fail)
        go_loopw [7, 39] (fun t7 t39 wr => ∃ q : Nat, q ≤ n ∧ t7 = .int .i64 ((k / 6 / 16 ^ q : Nat) : Int) ∧ t39 = .int .i64 q ∧ Hid (MOw B wr m pb u2 n p (decK n k q) vj) ∧ Hid (Ext w wr)) (fun _ t39 _ => n - (intOf t39).toNat)
        case atStart => exact ⟨0, Nat.zero_le _, by simp, rfl, M0, XC⟩
        case round =>
          clear M0 XC d
          obtain ⟨q, hq, rfl, rfl, HM, HXW⟩ := hrel
          have d := HM.out.bm.cell
          rw [decK_len] at d
          obtain ⟨N, hN⟩ : ∃ N, k / 6 / 16 ^ q = N := ⟨_, rfl⟩
          have hNb : N < 9223372036854775808 := by rw [← hN]; exact Nat.lt_of_le_of_lt (Nat.div_le_self _ _) (by omega)
          rw [hN]
          by_cases hlt : q < n
          · have hun : (⟨bits .and .i64 (N:Int) 1 == 1, bits .and .i64 (N:Int) 2 == 2, bits .and .i64 (N:Int) 4 == 4, bits .and .i64 (N:Int) 8 == 8, 0⟩ : UnitD) = decU N := by
              have a1 : (bits .and .i64 (N:Int) 1 == 1) = (N / 2 ^ 0 % 2 == 1) := bit_is N 1 0 hNb (by omega) rfl
              have a2 : (bits .and .i64 (N:Int) 2 == 2) = (N / 2 ^ 1 % 2 == 1) := bit_is N 2 1 hNb (by omega) rfl
              have a3 : (bits .and .i64 (N:Int) 4 == 4) = (N / 2 ^ 2 % 2 == 1) := bit_is N 4 2 hNb (by omega) rfl
              have a4 : (bits .and .i64 (N:Int) 8 == 8) = (N / 2 ^ 3 % 2 == 1) := bit_is N 8 3 hNb (by omega) rfl
              rw [a1, a2, a3, a4]
              unfold decU
              simp
            have hst := decK_set n k q hlt
            rw [hN] at hst
            have hnx : k / 6 / 16 ^ (q + 1) = N / 16 := by rw [Nat.pow_succ, ← Nat.div_div_eq_div_mul, hN]
            obtain ⟨cs, hbk, hroom, _⟩ := HM.out.bu
            rw [decK_len] at hroom
            have hrow := HM.out.own
            rw [decK_len] at hrow
            have i2 : (0:Int) ≤ (q:Int) := by omega
            have i3 : (q:Int) < (n:Int) := by omega
            have HUN := Lib.hid hun
            have HST := Lib.hid hst
            have HNX := Lib.hid hnx
            have BK := Lib.hid hbk
            have ROOM := Lib.hid hroom
            have ROW := Lib.hid hrow
            clear hun hst hnx hbk hroom hrow
            go_wp2_with (
              with_reducible refine wpList_setU (B := B) (b := u2) (i := q) (n := n) (c := n) (us := (decK n k q).units) (u := ⟨bits .and .i64 (N:Int) 1 == 1, bits .and .i64 (N:Int) 2 == 2, bits .and .i64 (N:Int) 4 == 4, bits .and .i64 (N:Int) 8 == 8, 0⟩) rfl rfl ROW.out BK.out ?_ ?_ ?_ ?_ ?_ ?_ ?_
              · exact decK_len _ _ _
              · assumption
              · have := ROOM.out; omega
              · rfl
              · rfl
              · kernel_rfl
              rintro wS hrS hoS
              rw [HUN.out, HST.out] at hrS
              have hm5 := MOw.setRow (us := (decK n k (q + 1)).units) HM.out (by rw [decK_len, decK_len]) (by rw [decK_len]; exact hrS) hoS
              have hm6 : MOw B wS m pb u2 n p (decK n k (q + 1)) vj := hm5
              have hx := HXW.out.then_only hoS (fun b (e : b = u2) => by rw [e]; exact LU.out)
              clear HM HXW hm5 hrS hoS d
              have HM := Lib.hid hm6
              have HXW := Lib.hid hx
              clear hm6 hx)
            go_roundw
            case rel => exact ⟨q + 1, by omega, by rw [HNX.out]; simp, by go_num, HM, HXW⟩
            case measure => first | (simp [intOf]; done) | (simp [intOf]; omega)
          · have i3 : decide ((q:Int) < (n:Int)) = false := decide_eq_false (by omega)
            obtain rfl : n = q := by omega
            have hme := HM.out
            rw [decK_end] at hme
            have hsf := fun W (h : Ext wr W) => mSafe m pb p (decD n k) vj _ W ((hme.ext h).st (by rw [(decD_fit n k).len]; omega))
            have hok : decOk n k = ((N == 0) && safeD (decD n k)) := by unfold decOk; rw [hN]
            clear HM
            have HM := Lib.hid hme
            have HSF := Lib.hid hsf
            have HOK := Lib.hid hok
            clear hme hsf hok
            by_cases hz : N = 0
            · have f1 : ((N:Int) == 0) = true := by simp [hz]
              have hok2 : decOk n k = safeD (decD n k) := by rw [HOK.out, hz]; simp
              clear hz
              have HOK2 := Lib.hid hok2
              clear hok2
              go_wp2_with (
                go_at_call 70
                refine (HSF.out _ (Below.refl _ _)).mono ?_
                rintro e wT ⟨rfl, hx⟩
                have x2 := HXW.out.tr hx
                have hm6 := HM.out.ext hx
                clear HXW HM hx d
                have HXW := Lib.hid x2
                have HM := Lib.hid hm6
                clear x2 hm6)
              go_ret2
              exact .inr ⟨k, rfl, m, u2, by rw [HOK2.out] <;> rfl, HM.out, HXW.out⟩
            · have f1 : ((N:Int) == 0) = false := by simp [hz]
              have hok2 : decOk n k = false := by rw [HOK.out]; simp [hz]
              clear hz
              have HOK2 := Lib.hid hok2
              clear hok2
              go_wp2
              go_ret2
              exact .inr ⟨k, rfl, m, u2, by rw [HOK2.out] <;> rfl, HM.out, HXW.out⟩
      · exact AllReadyK.nil
    · exact AllReadyK.nil
end Go.Proofs.YtojobdffnnibaaaGreat
