import Derived.Test.YtojobdffnnibaaaPressPl
import Derived.Test.YtojobdffnnibaaaActsA
import Derived.Test.YtojobdffnnibaaaPSit
import Derived.Test.YtojobdffnnibaaaPBreak
import Derived.Test.YtojobdffnnibaaaRepPl
/- PressActs: the code of a situation. -/
namespace Go.Proofs.Ytojobdffnnibaaa
open Go.RowKit
set_option linter.unusedVariables false
set_option linter.unusedSimpArgs false

set_option maxRecDepth 100000 in
set_option maxHeartbeats 4000000 in
theorem sitCode_any (l : List Bool) (hl : l.length = 15) (w : World) :
    Calls Try.prog 58 #[.agg (l.map Value.bool).toArray] w fun e w' => e = .returned (.int .i64 ((if l.getD 0 false then 1 else if l.getD 1 false then 2 else 0) + 3 * (bitsN (l.drop 2) : Nat))) ∧ Ext w w' := by
  have hat : ∀ i, i < 15 → ((l.map Value.bool).toArray)[i]? = some (.bool (l.getD i false)) := fun i hi => by
    simp [List.getD_eq_getElem?_getD, hl, hi]
  have hstep : ∀ i, i < 15 → bitsN (l.drop i) = (l.getD i false).toNat + 2 * bitsN (l.drop (i + 1)) := fun i hi => by
    rw [bitsN_drop l i (by omega), List.getD_eq_getElem?_getD, List.getElem?_eq_getElem (by omega)]; rfl
  have hbd : ∀ i, 1 ≤ i → bitsN (l.drop i) < 32768 := fun i hi => by
    have h := bitsN_lt (l.drop i)
    have h2 : 2 ^ (l.drop i).length ≤ 2 ^ 15 := Nat.pow_le_pow_right (by omega) (by rw [List.length_drop]; omega)
    omega
  have h15 : bitsN (l.drop 15) = 0 := by rw [List.drop_eq_nil_of_le (by omega)]; rfl
  obtain ⟨F, hF⟩ : ∃ F : Nat → Bool, F = fun i => l.getD i false := ⟨_, rfl⟩
  obtain ⟨G, hG⟩ : ∃ G : Nat → Nat, G = fun i => bitsN (l.drop i) := ⟨_, rfl⟩
  have hat' : ∀ i, i < 15 → ((l.map Value.bool).toArray)[i]? = some (.bool (F i)) := by rw [hF]; exact hat
  have hstep' : ∀ i, i < 15 → G i = (F i).toNat + 2 * G (i + 1) := by rw [hF, hG]; exact hstep
  have hbd' : ∀ i, 1 ≤ i → G i < 32768 := by rw [hG]; exact hbd
  have h15' : G 15 = 0 := by rw [hG]; exact h15
  have e0 : l.getD 0 false = F 0 := by rw [hF]
  have e1 : l.getD 1 false = F 1 := by rw [hF]
  have e2 : bitsN (l.drop 2) = G 2 := by rw [hG]
  rw [e0, e1, e2]
  obtain ⟨R, hR⟩ : ∃ R : Int, (if F 0 then 1 else if F 1 then 2 else 0) + 3 * (G 2 : Int) = R := ⟨_, rfl⟩
  rw [hR]
  have HR := Lib.hid hR
  clear hR
  obtain ⟨b0, b1, b2, b3, b4, b5, b6, b7, b8, b9, b10, b11, b12, b13, b14, hl15⟩ := list15 l hl
  subst hl15
  have hcs : (([b0, b1, b2, b3, b4, b5, b6, b7, b8, b9, b10, b11, b12, b13, b14] : List Bool).map Value.bool).toArray = #[.bool b0, .bool b1, .bool b2, .bool b3, .bool b4, .bool b5, .bool b6, .bool b7, .bool b8, .bool b9, .bool b10, .bool b11, .bool b12, .bool b13, .bool b14] := rfl
  rw [hcs] at hat' ⊢
  have HAT := Lib.hid hat'
  have HST := Lib.hid hstep'
  have HBD := Lib.hid hbd'
  have H15 := Lib.hid h15'
  clear hat' hstep' hbd' h15'
  clear hat hstep hbd h15 hF hG e0 e1 e2 hcs hl
  go_enter Try.func58, Try.ntmps58
  go_upto_region 3 with (
    with_reducible refine wpList_boxA (t := 124) (cs := #[.bool b0, .bool b1, .bool b2, .bool b3, .bool b4, .bool b5, .bool b6, .bool b7, .bool b8, .bool b9, .bool b10, .bool b11, .bool b12, .bool b13, .bool b14]) rfl rfl rfl ?_
    rintro xb w1 hx1 hx2 hx3
    have XB := Lib.hid hx1
    have X1 := Lib.hid hx2
    clear hx1 hx2
    clear hx3)
  go_loopw [4, 3] (fun t4 t3 wr => ∃ i : Nat, 1 ≤ i ∧ i ≤ 14 ∧ t4 = .int .i64 i ∧ t3 = .int .i64 (G (i + 1)) ∧ Hid (Ext w1 wr)) (fun t4 _ _ => (intOf t4).toNat)
  case atStart => exact ⟨14, by omega, by omega, rfl, by rw [H15.out]; rfl, Below.refl _ _⟩
  case round =>
    obtain ⟨i, hi1, hi2, rfl, rfl, HX⟩ := hrel
    have hg := HBD.out (i + 1) (by omega)
    by_cases hlt : 1 < i
    · have i1 : (1:Int) < (i:Int) := by omega
      obtain ⟨j, rfl⟩ : ∃ j, i = j + 1 := ⟨i - 1, by omega⟩
      have d := ((XB.out.ext HX.out).cell (j + 1)).trans (HAT.out (j + 1) (by omega))
      have hs := HST.out (j + 1) (by omega)
      obtain ⟨f, hf⟩ : ∃ f, F (j + 1) = f := ⟨_, rfl⟩
      obtain ⟨c, hc⟩ : ∃ c, G (j + 1 + 1) = c := ⟨_, rfl⟩
      rw [hf] at d hs
      rw [hc] at hs hg ⊢
      have i2 : (0:Int) ≤ ((j + 1 : Nat):Int) := by omega
      have i3 : ((j + 1 : Nat):Int) < 15 := by omega
      have HS := Lib.hid hs
      clear hs
      clear hf hc
      cases f
      · go_wp2
        go_roundw
        case rel => exact ⟨j, by omega, by omega, by go_num, by have := HS.out; simp at this; first | go_num | (congr 1; omega), HX⟩
        case measure => first | (simp [intOf]; done) | (simp [intOf]; omega)
      · go_wp2
        go_roundw
        case rel => exact ⟨j, by omega, by omega, by go_num, by have := HS.out; simp at this; first | go_num | (congr 1; omega), HX⟩
        case measure => first | (simp [intOf]; done) | (simp [intOf]; omega)
    · have i1 : decide ((1:Int) < (i:Int)) = false := decide_eq_false (by omega)
      obtain rfl : i = 1 := by omega
      have d0 := ((XB.out.ext HX.out).cell 0).trans (HAT.out 0 (by omega))
      have d1 := ((XB.out.ext HX.out).cell 1).trans (HAT.out 1 (by omega))
      obtain ⟨f0, hf0⟩ : ∃ f, F 0 = f := ⟨_, rfl⟩
      obtain ⟨f1, hf1⟩ : ∃ f, F 1 = f := ⟨_, rfl⟩
      obtain ⟨c, hc⟩ : ∃ c, G 2 = c := ⟨_, rfl⟩
      have hg2 : c < 32768 := by rw [← hc]; exact hg
      rw [hf0] at d0
      rw [hf1] at d1
      try rw [hc]
      clear hg
      have xw := X1.out.tr HX.out
      have XW := Lib.hid xw
      have HF0 := Lib.hid hf0
      have HF1 := Lib.hid hf1
      have HC := Lib.hid hc
      clear xw hf0 hf1 hc
      cases f0
      · cases f1
        · go_wp2
          go_ret
          exact ⟨ret_int (by rw [← HR.out, HF0.out, HF1.out, HC.out]; simp), XW.out⟩
        · go_wp2
          go_ret
          exact ⟨ret_int (by rw [← HR.out, HF0.out, HF1.out, HC.out]; simp), XW.out⟩
      · go_wp2
        go_ret
        exact ⟨ret_int (by rw [← HR.out, HF0.out, HF1.out, HC.out]; simp), XW.out⟩
end Go.Proofs.Ytojobdffnnibaaa

/- PressActs: the press's Code. -/
namespace Go.Proofs.Ytojobdffnnibaaa
open Go.RowKit
set_option linter.unusedVariables false
set_option linter.unusedSimpArgs false

/-- The code that Code answers. -/
def coD (p : PressD) (s : StD) : Int := if stErr p s = 0 then codeD s else 0
theorem sit_code {s : StD} (hd : 0 ≤ s.drive ∧ s.drive ≤ 2) (hl : s.units.length ≤ 3) : ((if (sitD s).getD 0 false then 1 else if (sitD s).getD 1 false then 2 else 0) + 3 * (bitsN ((sitD s).drop 2) : Nat) : Int) = codeD s := by
  have hE := sitK_end s hl
  have h0 : sitD s = (s.drive == 1) :: (s.drive == 2) :: ((s.folder :: unitsB s.units) ++ List.replicate (12 - 4 * s.units.length) false) := by
    rw [← hE]; unfold sitK; rw [List.take_length]; rfl
  rw [h0]
  have hd2 : s.drive = 0 ∨ s.drive = 1 ∨ s.drive = 2 := by omega
  unfold codeD
  rw [show ((s.drive == 1) :: (s.drive == 2) :: ((s.folder :: unitsB s.units) ++ List.replicate (12 - 4 * s.units.length) false)).drop 2 = (s.folder :: unitsB s.units) ++ List.replicate (12 - 4 * s.units.length) false from rfl, bitsN_append, bitsN_false, Nat.mul_zero, Nat.add_zero]
  rcases hd2 with h | h | h <;> rw [h] <;> simp

set_option maxRecDepth 100000 in
set_option maxHeartbeats 4000000 in
theorem code_any (p : PressD) (s : StD) (vj vu : Value) (w : World) (hj : Truths w vj p.jam) (hu : UnIn w vu s.units) (hl : s.units.length ≤ 1000000) :
    Calls Try.prog 31 #[pV vj p, sV vu s] w fun e w' => e = .returned (.tuple #[.int .i64 (coD p s), .int .i64 (stErr p s)]) ∧ Ext w w' := by
  have hst := fun w1 (k : Ext w w1) => start_any p s vj vu w1 (Sl.ext hj k) (hu.ext k) hl
  obtain ⟨a, c, rfl, Hu⟩ := hu.form
  obtain ⟨_, aj, cj, hvj, _⟩ := id hj
  rw [List.length_map] at hvj
  subst hvj
  clear hu hl Hu
  unfold pV sV at *
  obtain ⟨e1, he1⟩ : ∃ e, stErr p s = e := ⟨_, rfl⟩
  obtain ⟨R, hR⟩ : ∃ R, coD p s = R := ⟨_, rfl⟩
  rw [he1, hR]
  have HST := Lib.hid hst
  have HE1 := Lib.hid he1
  have HR := Lib.hid hR
  clear hst he1 hR
  go_enter Try.func31, Try.ntmps31
  go_upto_region 1 with (first
    | (with_reducible refine wpList_boxA (t := 32) (cs := #[.slice aj p.jam.length cj, .int .i64 p.warm, .int .i64 p.tail, .int .i64 p.dirt]) rfl rfl rfl ?_
       rintro xb w1 hx1 hx2 hx3
       have PB := Lib.hid hx1
       have X1 := Lib.hid hx2
       clear hx1 hx2
       clear hx3)
    | (with_reducible refine wpList_boxA (t := 36) (cs := #[.int .i64 s.drive, .bool s.folder, .slice a s.units.length c, .int .i64 s.fresh]) rfl rfl rfl ?_
       rintro sb w2 hy1 hy2 hy3
       have c2 := (PB.out.ext hy2).cell
       have c3 := hy1.cell
       have x2 := X1.out.tr hy2
       clear PB X1
       have X1 := Lib.hid x2
       clear x2
       clear hy3 hy2 hy1))
  by_cases h1 : e1 = 0
  · subst h1
    have hs := fun w1 (k : Ext w w1) => (HST.out w1 k).mono fun e w' (h : StartPost w1 p s _ e w') => (h.resolve_left fun h => h.1 HE1.out).2
    obtain ⟨hpe, hsh, hsf⟩ := stErr_ok HE1.out
    have hul : s.units.length ≤ 3 := by rw [shaped_len hsh]; exact (pErr_len hpe).2
    have hsc := sit_code (shaped_nums hsh).1 hul
    have hr2 : R = codeD s := by rw [← HR.out]; unfold coD; rw [if_pos HE1.out]
    rw [← hr2] at hsc
    have hco := fun W => sitCode_any (sitD s) (sitD_len s) W
    rw [hsc] at hco
    have HS := Lib.hid hs
    have HUL := Lib.hid hul
    have HCO := Lib.hid hco
    clear hs hul hco
    clear hsc hr2 hpe hsh hsf HST
    go_wp2_with (first
      | (go_at_call 43
         refine (HS.out _ X1.out).mono ?_
         rintro e w3 ⟨mb, pb, ub, c4, rfl, hmo, hx⟩
         have x2 := X1.out.tr hx
         clear X1 hx HS c2 c3
         have X1 := Lib.hid x2
         have HM := Lib.hid hmo
         clear x2 hmo)
      | (go_at_call 57
         refine (situation_any _ HM.out HUL.out).mono ?_
         rintro e w4 ⟨rfl, hx⟩
         have x2 := X1.out.tr hx
         clear X1 hx HM
         have X1 := Lib.hid x2
         clear x2)
      | (go_at_call 58
         refine (HCO.out _).mono ?_
         rintro e w5 ⟨rfl, hx⟩
         have x2 := X1.out.tr hx
         clear X1 hx
         have X1 := Lib.hid x2
         clear x2))
    go_ret2
    exact ⟨rfl, X1.out⟩
  · have hs := fun w1 (k : Ext w w1) => (HST.out w1 k).mono fun e w' (h : StartPost w1 p s _ e w') => (h.resolve_right fun h => h1 (HE1.out.symm.trans h.1)).2
    rw [HE1.out] at hs
    have f1 : (e1 != 0) = true := by simp [h1]
    have hr2 : R = 0 := by rw [← HR.out]; unfold coD; rw [if_neg (by rw [HE1.out]; exact h1)]
    have HS := Lib.hid hs
    have HR2 := Lib.hid hr2
    clear hs hr2
    clear HST
    go_wp2_with (
      go_at_call 43
      refine (HS.out _ X1.out).mono ?_
      rintro e w3 ⟨rfl, hx⟩
      have x2 := X1.out.tr hx
      clear X1 hx HS c2 c3
      have X1 := Lib.hid x2
      clear x2)
    go_ret2
    exact ⟨by rw [HR2.out] <;> rfl, X1.out⟩
end Go.Proofs.Ytojobdffnnibaaa

/- The codes of all situations that can be reached, and what Refute says of them, in plain words. -/
namespace Go.Proofs.Ytojobdffnnibaaa
set_option linter.unusedVariables false

theorem bitsN_inj : ∀ (l l' : List Bool), l.length = l'.length → bitsN l = bitsN l' → l = l'
  | [], [], _, _ => rfl
  | [], b :: l, h, _ => by simp at h
  | b :: l, [], h, _ => by simp at h
  | b :: l, b' :: l', h, e => by
    rw [bitsN, bitsN] at e
    have h1 : l.length = l'.length := by simpa using h
    have h2 : bitsN l = bitsN l' := by cases b <;> cases b' <;> simp at e <;> omega
    rw [bitsN_inj l l' h1 h2]
    rw [h2] at e
    have h3 : b = b' := by cases b <;> cases b' <;> simp at e <;> rfl
    rw [h3]
theorem code_ss {n : Nat} {s t : StD} (hs : Fit n s) (ht : Fit n t) (h : codeD s = codeD t) : SS s t := by
  have h1 := hs.dr
  have h2 := ht.dr
  unfold codeD at h
  obtain ⟨a, ha⟩ : ∃ a, bitsN (s.folder :: unitsB s.units) = a := ⟨_, rfl⟩
  obtain ⟨b, hb⟩ : ∃ b, bitsN (t.folder :: unitsB t.units) = b := ⟨_, rfl⟩
  rw [ha, hb] at h
  have hd : s.drive = t.drive := by omega
  have hab : a = b := by omega
  rw [← ha, ← hb] at hab
  have hl := bitsN_inj _ _ (by rw [List.length_cons, List.length_cons, unitsB_four, unitsB_four, hs.len, ht.len]) hab
  injection hl with h3 h4
  refine ⟨hd, h3, unitsB_inj s.units t.units [] [] (hs.len.trans ht.len.symm) (by rw [h4])⟩
theorem ss_code {s t : StD} (h : SS s t) : codeD s = codeD t := by
  unfold codeD
  rw [h.dr, h.fo, unitsB_eq h.un]

/-- The tower that a number writes. -/
def decU (m : Nat) : UnitD := ⟨m % 2 == 1, m / 2 % 2 == 1, m / 4 % 2 == 1, m / 8 % 2 == 1, 0⟩
def decD (n c : Nat) : StD := ⟨((c % 3 : Nat) : Int), c / 3 % 2 == 1, (List.range n).map fun j => decU (c / 6 / 16 ^ j), 0⟩
def decOk (n c : Nat) : Bool := (c / 6 / 16 ^ n == 0) && safeD (decD n c)
theorem decD_fit (n c : Nat) : Fit n (decD n c) := ⟨by unfold decD; dsimp only; omega, by simp [decD]⟩
def nibU (u : UnitD) : Nat := u.op.toNat + 2 * u.th.toNat + 4 * u.cl.toNat + 8 * u.pr.toNat
theorem nibU_lt (u : UnitD) : nibU u < 16 := by
  obtain ⟨a, b, c, d, e⟩ := u
  cases a <;> cases b <;> cases c <;> cases d <;> simp [nibU]
theorem dec_nib (u : UnitD) (m : Nat) (h : m % 16 = nibU u) : flagsU (decU m) = flagsU u := by
  have h1 : m % 2 = nibU u % 2 := by omega
  have h2 : m / 2 % 2 = nibU u / 2 % 2 := by omega
  have h3 : m / 4 % 2 = nibU u / 4 % 2 := by omega
  have h4 : m / 8 % 2 = nibU u / 8 % 2 := by omega
  unfold decU flagsU
  dsimp only
  rw [h1, h2, h3, h4]
  obtain ⟨a, b, c, d, e⟩ := u
  cases a <;> cases b <;> cases c <;> cases d <;> simp [nibU]
theorem cN_nib (us : List UnitD) : ∀ m, m ≤ us.length → ∀ j (h : j < m), cN us m / 16 ^ j % 16 = nibU (us.getD j default)
  | 0, _, j, h => by omega
  | m + 1, hm, j, h => by
    have e := cN_succ us m (by omega)
    have hg : us.getD m default = us[m] := by rw [List.getD_eq_getElem?_getD, List.getElem?_eq_getElem (by omega)]; rfl
    have e2 : cN us (m + 1) = cN us m + 16 ^ m * nibU (us.getD m default) := by rw [hg]; exact e
    rw [e2]
    have hlt := cN_lt us m (by omega)
    have hn := nibU_lt (us.getD m default)
    by_cases hj : j = m
    · subst hj
      rw [Nat.add_mul_div_left _ _ (Nat.pow_pos (by decide)), Nat.div_eq_of_lt hlt, Nat.zero_add]
      exact Nat.mod_eq_of_lt hn
    · have ih := cN_nib us m (by omega) j (by omega)
      obtain ⟨q, hq⟩ : ∃ q, m = j + 1 + q := ⟨m - j - 1, by omega⟩
      have e3 : 16 ^ m * nibU (us.getD m default) = 16 ^ j * (16 * (16 ^ q * nibU (us.getD m default))) := by
        rw [hq, Nat.pow_add, Nat.pow_succ]
        simp only [Nat.mul_assoc]
      rw [e3, Nat.add_mul_div_left _ _ (Nat.pow_pos (by decide)), Nat.add_mul_mod_self_left]
      exact ih
theorem dec_code {n : Nat} {t : StD} (ht : Fit n t) (hn : n ≤ 3) : ∃ c : Nat, codeD t = c ∧ SS (decD n c) t ∧ c / 6 / 16 ^ n = 0 ∧ c < 24576 := by
  have hd := ht.dr
  have hl := ht.len
  obtain ⟨d, hdd⟩ : ∃ d : Nat, t.drive = d := ⟨t.drive.toNat, by omega⟩
  obtain ⟨N, hN⟩ : ∃ N, cN t.units t.units.length = N := ⟨_, rfl⟩
  have hlt := cN_lt t.units t.units.length (Nat.le_refl _)
  rw [hN, hl] at hlt
  have hf : t.folder.toNat < 2 := by cases t.folder <;> decide
  have hc : codeD t = ((d + 3 * (2 * N + t.folder.toNat) : Nat) : Int) := by rw [codeD_eq, hN, hdd]; omega
  have hc6 : (d + 3 * (2 * N + t.folder.toNat)) / 6 = N := by omega
  have hc3 : (d + 3 * (2 * N + t.folder.toNat)) % 3 = d := by omega
  have hc2 : (d + 3 * (2 * N + t.folder.toNat)) / 3 % 2 = t.folder.toNat := by omega
  have hun : (List.range n).map (fun j => flagsU (decU (N / 16 ^ j))) = t.units.map flagsU := by
    obtain ⟨d0, fo, us, fr⟩ := t
    dsimp only at hl hN ⊢
    have key : ∀ j (h : j < us.length), N / 16 ^ j % 16 = nibU us[j] := fun j h => by
      have := cN_nib us us.length (Nat.le_refl _) j h
      rw [hN, List.getD_eq_getElem?_getD, List.getElem?_eq_getElem h] at this
      exact this
    apply List.ext_getElem
    · simp [hl]
    · intro k h1 h2
      have hk : k < us.length := by simpa using h2
      simp only [List.getElem_map, List.getElem_range]
      exact dec_nib _ _ (key k hk)
  have hp : 16 ^ n ≤ 4096 := by
    have : n = 0 ∨ n = 1 ∨ n = 2 ∨ n = 3 := by omega
    rcases this with rfl | rfl | rfl | rfl <;> decide
  refine ⟨d + 3 * (2 * N + t.folder.toNat), hc, ⟨?_, ?_, ?_⟩, ?_, by omega⟩
  · unfold decD; dsimp only; rw [hc3, hdd]
  · unfold decD; dsimp only; rw [hc2]; cases t.folder <;> rfl
  · unfold decD; dsimp only; rw [hc6, List.map_map]; exact hun
  · rw [hc6]; exact Nat.div_eq_of_lt hlt

/-- All situations that can be reached, and their codes. -/
def closedL (p : PressD) (s : StD) : List StepD := (searchD p (fun _ => false) 40000 0 [⟨s, 0, 0, -1⟩]).1
def codesD (p : PressD) (s : StD) : List Int := (closedL p s).map fun t => codeD t.at_
structure ClosedF (p : PressD) (s : StD) : Prop where
  run : ∀ x ∈ closedL p s, ∃ ac, Run p s ac x.at_
  has : ∃ x ∈ closedL p s, x.at_ = s
  all : ∀ ac t, Run p s ac t → ∃ x ∈ closedL p s, SS x.at_ t
  next : ∀ x ∈ closedL p s, ∀ k u, actErr p x.at_ k u = 0 → ∃ y ∈ closedL p s, SS y.at_ (actD p x.at_ k u)
  nodup : (codesD p s).Nodup
  fit : ∀ x ∈ closedL p s, Fit s.units.length x.at_
theorem closed_all {p : PressD} {s : StD} (hd : 0 ≤ s.drive ∧ s.drive ≤ 2) (hl : s.units.length ≤ 3) : ClosedF p s := by
  have b0 : Bfs p s.units.length s 0 [⟨s, 0, 0, -1⟩] (fun _ => 0) := by
    refine ⟨by simp, fun _ => ⟨rfl, rfl⟩, fun j h => ?_, rfl, fun j h h0 => ?_, fun j k _ _ => Nat.le_refl _, fun j _ _ => Nat.zero_le _, fun j h hj => by omega⟩
    · obtain rfl : j = 0 := by simpa using h
      exact ⟨hd, rfl⟩
    · have : j = 0 := by simpa using h
      omega
  have hap : Apart [(⟨s, 0, 0, -1⟩ : StepD)] := by unfold Apart; simp
  have hok := searchD_ok p (fun _ => false) 40000 0 _ (back_one s 0 0) hap
  obtain ⟨dep, hs⟩ := search_bfs (fun _ => false) 40000 0 _ _ b0 hap (fun j _ h => by omega) (Nat.zero_le _) (by omega)
  obtain ⟨r, hr⟩ : ∃ r, searchD p (fun _ => false) 40000 0 [⟨s, 0, 0, -1⟩] = r := ⟨_, rfl⟩
  have hcl : closedL p s = r.1 := by unfold closedL; rw [hr]
  rw [hr] at hs hok
  have b : Bfs p s.units.length s r.1.length r.1 dep := by
    rcases hs with ⟨_, b, _⟩ | ⟨m, _, hm, h, _⟩
    · exact b
    · cases h
  have hfit : ∀ x ∈ r.1, Fit s.units.length x.at_ := fun x hx => by
    obtain ⟨j, hj, rfl⟩ := List.mem_iff_getElem.1 hx
    exact b.fit j hj
  refine ⟨fun x hx => ?_, ?_, fun ac t hrun => ?_, fun x hx k u he => ?_, ?_, by rw [hcl]; exact hfit⟩
  · rw [hcl] at hx
    obtain ⟨j, hj, rfl⟩ := List.mem_iff_getElem.1 hx
    exact ⟨_, (back_run b (j + 1) j hj (by omega)).1⟩
  · rw [hcl]
    exact ⟨r.1[0]'b.pos, List.getElem_mem _, (b.first b.pos).1⟩
  · obtain ⟨j', hj', ss, _⟩ := follow b hl ac 0 b.pos s t (by rw [(b.first b.pos).1]; exact SS.refl s) ⟨hd, rfl⟩ hrun (fun m hm _ => hm)
    rw [hcl]
    exact ⟨_, List.getElem_mem hj', ss⟩
  · rw [hcl] at hx ⊢
    obtain ⟨j, hj, rfl⟩ := List.mem_iff_getElem.1 hx
    obtain ⟨k1, k2, x1, x2⟩ := err_unit he
    obtain ⟨v, rfl⟩ : ∃ v : Nat, u = v := ⟨u.toNat, by omega⟩
    have f1 := b.fit j hj
    obtain ⟨j1, hj1, e1, _⟩ := b.closed j hj hj k v k1 k2 (by rw [← f1.len]; simpa using x2) he
    have f2 := b.fit j1 hj1
    have f3 : Fit s.units.length (actD p r.1[j].at_ k v) := f1.act _ _
    exact ⟨_, List.getElem_mem hj1, sit_ss e1 f2.dr f3.dr (f2.len.trans f3.len.symm) (by rw [f2.len]; exact hl)⟩
  · unfold codesD
    rw [hcl]
    have ha := hok.apart
    unfold Apart at ha
    rw [List.nodup_iff_pairwise_ne] at ha ⊢
    rw [List.pairwise_map] at ha ⊢
    refine List.Pairwise.imp_of_mem (fun {x y} hx hy h e => h ?_) ha
    exact (code_ss (hfit x hx) (hfit y hy) e).sit
theorem ClosedF.len {p : PressD} {s : StD} (h : ClosedF p s) (hl : s.units.length ≤ 3) : (codesD p s).length ≤ 24576 := by
  have h2 := nodup_lt 24576 ((codesD p s).map Int.toNat) ?_ ?_
  · simpa using h2
  · have h1 := h.nodup
    rw [List.nodup_iff_pairwise_ne] at h1 ⊢
    rw [List.pairwise_map]
    refine List.Pairwise.imp_of_mem (fun {x y} hx hy hne e => hne ?_) h1
    obtain ⟨a, ha, rfl⟩ := List.mem_map.1 hx
    obtain ⟨b, hb, rfl⟩ := List.mem_map.1 hy
    obtain ⟨c, hc, _⟩ := dec_code (h.fit a ha) hl
    obtain ⟨c', hc', _⟩ := dec_code (h.fit b hb) hl
    rw [hc, hc'] at e ⊢
    omega
  · intro x hx
    obtain ⟨y, hy, rfl⟩ := List.mem_map.1 hx
    obtain ⟨a, ha, rfl⟩ := List.mem_map.1 hy
    obtain ⟨c, hc, _, _, hlt⟩ := dec_code (h.fit a ha) hl
    rw [hc]
    omega

/-- A code holds with some codes: it is a situation's, not the goal's, and no action leads out. -/
def refOk (p : PressD) (g : GoalD) (n : Nat) (codes : List Int) (c : Int) : Bool :=
  decide (0 ≤ c) && (decOk n c.toNat && (!fulD g (decD n c.toNat) && (kindsD n).all fun a => actErr p (decD n c.toNat) a.1 a.2 != 0 || codes.contains (codeD (actD p (decD n c.toNat) a.1 a.2))))
/-- What Refute answers. -/
def refD (p : PressD) (s : StD) (g : GoalD) (codes : List Int) : Int :=
  if goErr p s g ≠ 0 then goErr p s g else if 30000 < codes.length then 2 else if codes.contains (codeD s) = false then 7 else if codes.all (refOk p g s.units.length codes) then 0 else 7
theorem safe_ss {s t : StD} (h : SS s t) : safeD s = safeD t := by
  unfold safeD
  rw [h.dr, h.opened, h.anyPr, map_any h.un (fun u => u.pr && (!u.th || t.drive == 0)) (fun f => f.2.2.2 && (!f.2.1 || t.drive == 0)) (fun _ => rfl)]
theorem good_safe {p : PressD} {s : StD} (g : Good p s) : safeD s = true := by
  have h := (good_iff p s).2 g
  exact (stErr_ok h).2.2
/-- Where no program leads to the goal the codes of all situations prove it, and where one does they do not; without the first one they never do. -/
theorem refute_facts {p : PressD} {s : StD} {gl : GoalD} (g : Good p s) (ha : aimedD s gl = true) {codes : List Int} (hp : codes.Perm (codesD p s)) :
    ((∀ ac t, Run p s ac t → fulD gl t = false) → refD p s gl codes = 0) ∧ ((∃ ac t, Run p s ac t ∧ fulD gl t = true) → refD p s gl codes = 7) ∧
    (codes.filter (fun c => c != codeD s)).length + 1 = codes.length ∧ refD p s gl (codes.filter fun c => c != codeD s) = 7 := by
  have hsm := g.small
  have hs := (good_iff p s).2 g
  have hge : goErr p s gl = 0 := by unfold goErr; rw [if_neg (by rw [hs]; simp), if_pos ha]
  have F := closed_all (p := p) g.dr hsm.1
  have hlen : codes.length ≤ 24576 := by rw [hp.length_eq]; exact F.len hsm.1
  have hmem : ∀ c, c ∈ codes ↔ ∃ x ∈ closedL p s, codeD x.at_ = c := fun c => by
    rw [hp.mem_iff]; unfold codesD; rw [List.mem_map]
  have hin : codeD s ∈ codes := by
    obtain ⟨x, hx, e⟩ := F.has
    exact (hmem _).2 ⟨x, hx, by rw [e]⟩
  have hc0 : codes.contains (codeD s) = true := by simpa using hin
  have hr : refD p s gl codes = if codes.all (refOk p gl s.units.length codes) then 0 else 7 := by
    unfold refD
    rw [if_neg (by rw [hge]; simp), if_neg (by omega), if_neg (by rw [hc0]; simp)]
  refine ⟨fun hno => ?_, fun ⟨ac, t, hrun, hful⟩ => ?_, ?_, ?_⟩
  · rw [hr, if_pos]
    rw [List.all_eq_true]
    intro c hc
    obtain ⟨x, hx, rfl⟩ := (hmem c).1 hc
    obtain ⟨ac, hrun⟩ := F.run x hx
    have gx := run_good g hrun
    obtain ⟨m, hm, ss, hz, _⟩ := dec_code (F.fit x hx) hsm.1
    unfold refOk
    rw [hm, Int.toNat_natCast]
    have h1 : decOk s.units.length m = true := by
      unfold decOk
      rw [hz, safe_ss ss, good_safe gx]; rfl
    have h2 : fulD gl (decD s.units.length m) = false := by rw [ss.ful]; exact hno _ _ hrun
    rw [h1, h2]
    simp only [Bool.not_false, Bool.true_and, Bool.and_eq_true, decide_eq_true_eq]
    refine ⟨by omega, ?_⟩
    rw [List.all_eq_true]
    intro a hka
    by_cases he : actErr p (decD s.units.length m) a.1 a.2 = 0
    · have he2 : actErr p x.at_ a.1 a.2 = 0 := by rw [← ss.err]; exact he
      obtain ⟨y, hy, sy⟩ := F.next x hx a.1 a.2 he2
      have : codeD (actD p (decD s.units.length m) a.1 a.2) ∈ codes := (hmem _).2 ⟨y, hy, ss_code (sy.trans (ss.act a.1 a.2).symm)⟩
      simp [this]
    · simp [he]
  · rw [hr, if_neg]
    intro hall
    rw [List.all_eq_true] at hall
    obtain ⟨x, hx, sx⟩ := F.all ac t hrun
    have h1 := hall _ ((hmem _).2 ⟨x, hx, rfl⟩)
    obtain ⟨m, hm, ss, _⟩ := dec_code (F.fit x hx) hsm.1
    unfold refOk at h1
    rw [hm, Int.toNat_natCast, (ss.trans sx).ful, hful] at h1
    simp at h1
  · have hnd : codes.Nodup := hp.nodup_iff.2 F.nodup
    have e : codes.filter (fun c => c != codeD s) = codes.erase (codeD s) := (hnd.erase_eq_filter _).symm
    rw [e, List.length_erase_of_mem hin]
    have := List.length_pos_of_mem hin
    omega
  · unfold refD
    rw [if_neg (by rw [hge]; simp), if_neg, if_pos]
    · simp
    · have := List.length_filter_le (fun c => c != codeD s) codes
      omega
end Go.Proofs.Ytojobdffnnibaaa
