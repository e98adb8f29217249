/- The library's insertion sort of a row of numbers, by a comparing function. -/
import Derived.Test.YtekplfbfkfiabaaBkCl0
namespace Go.Proofs.Ytekplfbfkfiabaa
open Go.RowKit
set_option linter.unusedVariables false
set_option linter.unusedSimpArgs false

def gI (xs : List Int) (i : Nat) : Int := xs.getD i 0
def swapAt (xs : List Int) (j : Nat) : List Int := (xs.set (j + 1) (gI xs j)).set j (gI xs (j + 1))
/-- The element at j goes down, not below a. -/
def insJ (cmp : Int → Int → Int) (a : Nat) : Nat → List Int → List Int
  | 0, xs => xs
  | j + 1, xs => if a < j + 1 ∧ cmp (gI xs (j + 1)) (gI xs j) < 0 then insJ cmp a j (swapAt xs j) else xs
def insN (cmp : Int → Int → Int) (a : Nat) : Nat → List Int → List Int
  | 0, xs => xs
  | c + 1, xs => insJ cmp a (a + c + 1) (insN cmp a c xs)
theorem swapAt_len (xs : List Int) (j : Nat) : (swapAt xs j).length = xs.length := by simp [swapAt]
theorem insJ_len (cmp : Int → Int → Int) (a : Nat) : ∀ (j : Nat) (xs : List Int), (insJ cmp a j xs).length = xs.length
  | 0, _ => rfl
  | j + 1, xs => by unfold insJ; split; rw [insJ_len cmp a j, swapAt_len]; rfl
theorem insN_len (cmp : Int → Int → Int) (a : Nat) : ∀ (c : Nat) (xs : List Int), (insN cmp a c xs).length = xs.length
  | 0, _ => rfl
  | c + 1, xs => by unfold insN; rw [insJ_len, insN_len cmp a c]
theorem swapAt_all {P : Int → Prop} {xs : List Int} {j : Nat} (hj : j + 1 < xs.length) (h : ∀ x ∈ xs, P x) : ∀ x ∈ swapAt xs j, P x := by
  intro x hx
  unfold swapAt at hx
  have h0 : gI xs j ∈ xs := by unfold gI; rw [List.getD_eq_getElem?_getD, List.getElem?_eq_getElem (show j < xs.length by omega)]; exact List.getElem_mem _
  have h1 : gI xs (j + 1) ∈ xs := by unfold gI; rw [List.getD_eq_getElem?_getD, List.getElem?_eq_getElem hj]; exact List.getElem_mem _
  rcases List.mem_or_eq_of_mem_set hx with hx | rfl
  · rcases List.mem_or_eq_of_mem_set hx with hx | rfl
    · exact h x hx
    · exact h _ h0
  · exact h _ h1
theorem insJ_all {P : Int → Prop} (cmp : Int → Int → Int) (a : Nat) : ∀ (j : Nat) (xs : List Int), j < xs.length ∨ j = 0 → (∀ x ∈ xs, P x) → ∀ x ∈ insJ cmp a j xs, P x
  | 0, _, _, h => h
  | j + 1, xs, hj, h => by
    unfold insJ; split
    · exact insJ_all cmp a j _ (by rw [swapAt_len]; omega) (swapAt_all (by omega) h)
    · exact h
theorem gI_get {xs : List Int} {i : Nat} (h : i < xs.length) : gI xs i = xs[i] := by unfold gI; rw [List.getD_eq_getElem?_getD, List.getElem?_eq_getElem h]; rfl

def iA (xs : List Int) : Array Value := (iV xs).toArray
theorem iA_size (xs : List Int) : (iA xs).size = xs.length := by simp [iA, iV]
theorem iA_get {xs : List Int} {i : Nat} (h : i < xs.length) : (iA xs)[i]? = some (.int .i64 (gI xs i)) := by
  rw [gI_get h]; simp [iA, iV, h]
theorem iA_set (xs : List Int) (i : Nat) (x : Int) : (iA xs).setIfInBounds i (.int .i64 x) = iA (xs.set i x) := by
  simp [iA, iV, List.map_set]
theorem Blk.int {w : World} {g : Nat} {xs : List Int} {t : TypeId} (h : Blk w g (iA xs) t) {i : Nat} (hi : i < xs.length) : w.cell? ⟨g, i, none⟩ = some (.int .i64 (gI xs i)) := by
  rw [h.cell, iA_get hi]

theorem insJ_stop (cmp : Int → Int → Int) (a j : Nat) (xs : List Int) (h : ¬ a < j) : insJ cmp a j xs = xs := by
  cases j with
  | zero => rfl
  | succ j => unfold insJ; rw [if_neg (fun hh => h hh.1)]
theorem insJ_end (cmp : Int → Int → Int) (a j : Nat) (xs : List Int) (h : ¬ cmp (gI xs (j + 1)) (gI xs j) < 0) : insJ cmp a (j + 1) xs = xs := by
  unfold insJ; rw [if_neg (fun hh => h hh.2)]
theorem insJ_go (cmp : Int → Int → Int) (a j : Nat) (xs : List Int) (h : a < j + 1) (h2 : cmp (gI xs (j + 1)) (gI xs j) < 0) : insJ cmp a (j + 1) xs = insJ cmp a j (swapAt xs j) := by
  show (if a < j + 1 ∧ cmp (gI xs (j + 1)) (gI xs j) < 0 then insJ cmp a j (swapAt xs j) else xs) = _
  rw [if_pos ⟨h, h2⟩]
/-- What a comparing function is: it reads, whatever was done to the row. -/
def CmpOk (w : World) (g : Nat) (caps : Array Value) (cmp : Int → Int → Int) (P : Int → Prop) : Prop :=
  ∀ w1, Only (fun k => k = g) w w1 → ∀ x y, P x → P y → Calls Try.prog 56 (#[.int .i64 x, .int .i64 y] ++ caps) w1 fun e w2 => e = .returned (.int .i64 (cmp x y)) ∧ ∃ n, w2 = w1.drewN n

set_option maxRecDepth 100000 in
set_option maxHeartbeats 4000000 in
theorem insertion_any (g : Nat) (caps : Array Value) (cmp : Int → Int → Int) (P : Int → Prop) (xs : List Int) (n a b : Nat) (w : World) (hb : Blk w g (iA xs) 3) (hn : xs.length = n) (hn2 : n ≤ 1000) (hab : a ≤ b) (hbn : b ≤ n)
    (hP : ∀ x ∈ xs, P x) (hc : CmpOk w g caps cmp P) :
    Calls Try.prog 114 #[.slice (some ⟨g, 0, none⟩) n n, .int .i64 a, .int .i64 b, .func (.func 56) #[] caps] w fun e w' => e = .returned (.tuple #[]) ∧ Blk w' g (iA (insN cmp a (b - (a + 1)) xs)) 3 ∧ Only (fun k => k = g) w w' := by
  have HB := Lib.hid hb
  have HP := Lib.hid hP
  have HC := Lib.hid hc
  have HN := Lib.hid hn
  clear hb hP hc hn
  go_enter Try.func114, Try.ntmps114
  go_wp2
  go_loopw [8] (fun t wr => ∃ c : Nat, c ≤ b - (a + 1) ∧ t = .int .i64 ((a + 1 + c : Nat) : Int) ∧ Hid (Blk wr g (iA (insN cmp a c xs)) 3) ∧ Hid (∀ x ∈ insN cmp a c xs, P x) ∧ Hid (Only (fun k => k = g) w wr)) (fun t _ => b - (intOf t).toNat)
  case atStart => exact ⟨0, Nat.zero_le _, by go_num, HB.out, HP.out, Only.refl _ _⟩
  case round =>
    obtain ⟨c, hc2, rfl, HB2, HP2, HO⟩ := hrel
    clear HB HP
    obtain ⟨i, hi⟩ : ∃ i : Nat, i = a + 1 + c := ⟨_, rfl⟩
    rw [← hi]
    have HI := Lib.hid hi
    by_cases hlt : i < b
    · have hic : c + 1 ≤ b - (a + 1) := by omega
      have hl2 : (insN cmp a c xs).length = n := by rw [insN_len]; exact HN.out
      obtain ⟨ys, hys⟩ : ∃ ys, ys = insN cmp a c xs := ⟨_, rfl⟩
      rw [← hys] at HB2 HP2 hl2
      have HE := Lib.hid (show insN cmp a (c + 1) xs = insJ cmp a (a + c + 1) ys by rw [hys]; rfl)
      have HL := Lib.hid hl2
      clear hys hl2
      obtain ⟨w0, hw0⟩ : ∃ W, W = wr := ⟨wr, rfl⟩
      subst hw0
      clear hi
      go_upto_region 4 with (fail)
      go_loopw [9] (fun t wr => ∃ j : Nat, a ≤ j ∧ j ≤ i ∧ t = .int .i64 j ∧ ∃ zs, Hid (Blk wr g (iA zs) 3) ∧ Hid (zs.length = n) ∧ Hid (∀ x ∈ zs, P x) ∧ Hid (insJ cmp a (a + c + 1) ys = insJ cmp a j zs) ∧ Hid (Only (fun k => k = g) w wr)) (fun t _ => (intOf t).toNat)
      case atStart => exact ⟨i, by have := HI.out; omega, Nat.le_refl _, rfl, ys, HB2, HL, HP2, by show _ = _; rw [show a + c + 1 = i by have := HI.out; omega], HO⟩
      case round =>
        obtain ⟨j, hj1, hj2, rfl, zs, HB3, HL3, HP3, HE3, HO3⟩ := hrel
        by_cases haj : a < j
        · obtain ⟨q, rfl⟩ : ∃ q, j = q + 1 := ⟨j - 1, by omega⟩
          have hl3 := HL3.out
          have c1 := HB3.out.int (show q + 1 < zs.length by omega)
          have c0 := HB3.out.int (show q < zs.length by omega)
          have hp1 : P (gI zs (q + 1)) := by rw [gI_get (show q + 1 < zs.length by omega)]; exact HP3.out _ (List.getElem_mem _)
          have hp0 : P (gI zs q) := by rw [gI_get (show q < zs.length by omega)]; exact HP3.out _ (List.getElem_mem _)
          have HPS : Hid (∀ x ∈ swapAt zs q, P x) := swapAt_all (by omega) HP3.out
          obtain ⟨x, hx⟩ : ∃ x, x = gI zs (q + 1) := ⟨_, rfl⟩
          obtain ⟨y, hy⟩ : ∃ y, y = gI zs q := ⟨_, rfl⟩
          rw [← hx] at c1 hp1
          rw [← hy] at c0 hp0
          have hq := fun nn => HC.out (wr.drewN nn) (HO3.out.tr (Only.of_ext (Ext.of_drewN wr nn))) x y hp1 hp0
          obtain ⟨z, hz⟩ : ∃ z, z = cmp x y := ⟨_, rfl⟩
          rw [← hz] at hq
          have HXY := Lib.hid (And.intro hx hy)
          have HSW : Hid (swapAt zs q = (zs.set (q + 1) y).set q x) := by show swapAt zs q = _; rw [hx, hy]; rfl
          have k1 : (q : Int) + 1 - 1 = (q : Int) := by omega
          have k2 : (0:Int) ≤ (q:Int) := by omega
          have k3 : (q : Int) + 1 < (n : Int) := by omega
          have k4 : (q : Int) < (n : Int) := by omega
          have k5 : decide ((a : Int) < (q : Int) + 1) = true := decide_eq_true (by omega)
          by_cases hneg : z < 0
          · have HGO : Hid (insJ cmp a (a + c + 1) ys = insJ cmp a q (swapAt zs q)) := by
              show _ = _
              rw [HE3.out, insJ_go cmp a q zs (by omega) (by rw [← hx, ← hy, ← hz]; exact hneg)]
            have HQ := Lib.hid hq
            clear hq
            clear hx hy hz hp1 hp0 hl3
            go_upto_region 4 with (fail)
            go_quiet ((exact Calls.quiet_of (HQ.out _)))
            have hxq : Ext wr (wr.drewN nq) := Ext.of_drewN _ _
            replace HB3 := Lib.hid (HB3.out.ext hxq)
            replace HO3 := Lib.hid (HO3.out.tr (Only.of_ext hxq))
            generalize wr.drewN nq = wq at *
            clear hxq c0 c1 HQ
            go_upto_region 6 with (fail)
            have hxd : Ext wq wq.drew := (Below.refl _ wq).drew
            have hb3 := HB3.out.ext hxd
            have ho3 := HO3.out.tr (Only.of_ext hxd)
            refine wp_region_K (fun _ => True) 16 (by kernel_rfl) trivial (fun hHeld => ?_)
            generalize wq.drew = wA at *
            have hl3 := HL3.out
            have c1 := hb3.int (show q + 1 < zs.length by omega)
            have c0 := hb3.int (show q < zs.length by omega)
            rw [← HXY.out.1] at c1
            rw [← HXY.out.2] at c0
            have HLZ := Lib.hid (show q + 1 < (iA zs).size by rw [iA_size]; omega)
            clear HB3 HO3 hxd hl3
            have HB3 := Lib.hid hb3
            have HO3 := Lib.hid ho3
            clear hb3 ho3
            have kw : IntKind.i64.wrap (q:Int) = (q:Int) := i64_eq _ ⟨by omega, by omega⟩
            have k6 : (0:Int) ≤ (q:Int) + 1 := by omega
            refine wpAnyK_takeL (i := 0) (v := ?_) rfl (by kernel_rfl) (by kernel_rfl) (by kernel_rfl) (by kernel_rfl) (fun _ _ _ h => h) (Or.inl ⟨by rfl, ?_⟩) hHeld ?_
            rotate_left
            · intro w hSw; (try dsimp only at hSw); go_simp; (try with_reducible rfl)
            try simp only [Act.put, List.setIfInBounds_toArray, List.set_cons_zero, List.set_cons_succ]
            refine wpAnyK_takeL (i := 1) (v := ?_) rfl (by kernel_rfl) (by kernel_rfl) (by kernel_rfl) (by kernel_rfl) (fun _ _ _ h => h) (Or.inl ⟨by rfl, ?_⟩) hHeld ?_
            rotate_left
            · intro w hSw; (try dsimp only at hSw); go_simp; (try with_reducible rfl)
            try simp only [Act.put, List.setIfInBounds_toArray, List.set_cons_zero, List.set_cons_succ]
            refine wpAnyK_takeL (i := 2) (v := ?_) rfl (by kernel_rfl) (by kernel_rfl) (by kernel_rfl) (by kernel_rfl) (fun _ _ _ h => h) (Or.inl ⟨by rfl, ?_⟩) hHeld ?_
            rotate_left
            · intro w hSw; (try dsimp only at hSw); go_simp; (try with_reducible rfl)
            try simp only [Act.put, List.setIfInBounds_toArray, List.set_cons_zero, List.set_cons_succ]
            refine wpAnyK_takeL (i := 3) (v := ?_) rfl (by kernel_rfl) (by kernel_rfl) (by kernel_rfl) (by kernel_rfl) (fun _ _ _ h => h) (Or.inl ⟨by rfl, ?_⟩) hHeld ?_
            rotate_left
            · intro w hSw; (try dsimp only at hSw); go_simp; (try with_reducible rfl)
            try simp only [Act.put, List.setIfInBounds_toArray, List.set_cons_zero, List.set_cons_succ]
            refine wpAnyK_takeL (i := 4) (v := ?_) rfl (by kernel_rfl) (by kernel_rfl) (by kernel_rfl) (by kernel_rfl) (fun _ _ _ h => h) (Or.inl ⟨by rfl, ?_⟩) hHeld ?_
            rotate_left
            · intro w hSw; (try dsimp only at hSw); go_simp; (try with_reducible rfl)
            try simp only [Act.put, List.setIfInBounds_toArray, List.set_cons_zero, List.set_cons_succ]
            refine wpAnyK_takeL (i := 5) (v := ?_) rfl (by kernel_rfl) (by kernel_rfl) (by kernel_rfl) (by kernel_rfl) (fun _ _ _ h => h) (Or.inl ⟨by rfl, ?_⟩) hHeld ?_
            rotate_left
            · intro w hSw; (try dsimp only at hSw); go_simp; (try with_reducible rfl)
            try simp only [Act.put, List.setIfInBounds_toArray, List.set_cons_zero, List.set_cons_succ]
            refine wpAnyK_takeL (i := 6) (v := ?_) rfl (by kernel_rfl) (by kernel_rfl) (by kernel_rfl) (by kernel_rfl) (fun _ _ _ h => h) (Or.inl ⟨by rfl, ?_⟩) hHeld ?_
            rotate_left
            · intro w hSw; (try dsimp only at hSw); go_simp; (try with_reducible rfl)
            try simp only [Act.put, List.setIfInBounds_toArray, List.set_cons_zero, List.set_cons_succ]
            refine wpAnyK_takeL (i := 7) (v := ?_) rfl (by kernel_rfl) (by kernel_rfl) (by kernel_rfl) (by kernel_rfl) (fun _ _ _ h => h) (Or.inl ⟨by rfl, ?_⟩) hHeld ?_
            rotate_left
            · intro w hSw; (try dsimp only at hSw); go_simp; (try with_reducible rfl)
            try simp only [Act.put, List.setIfInBounds_toArray, List.set_cons_zero, List.set_cons_succ]
            refine wpAnyK_takeL (i := 8) (v := ?_) rfl (by kernel_rfl) (by kernel_rfl) (by kernel_rfl) (by kernel_rfl) (fun _ _ _ h => h) (Or.inl ⟨by rfl, ?_⟩) hHeld ?_
            rotate_left
            · intro w hSw; (try dsimp only at hSw); go_simp; (try with_reducible rfl)
            try simp only [Act.put, List.setIfInBounds_toArray, List.set_cons_zero, List.set_cons_succ]
            refine wpAnyK_takeL (i := 10) (v := ?_) rfl (by kernel_rfl) (by kernel_rfl) (by kernel_rfl) (by kernel_rfl) (fun _ _ _ h => h) (Or.inl ⟨by rfl, ?_⟩) hHeld ?_
            rotate_left
            · intro w hSw; (try dsimp only at hSw); go_simp; (try with_reducible rfl)
            try simp only [Act.put, List.setIfInBounds_toArray, List.set_cons_zero, List.set_cons_succ]
            refine wpAnyK_takeL (i := 11) (v := ?_) rfl (by kernel_rfl) (by kernel_rfl) (by kernel_rfl) (by kernel_rfl) (fun _ _ _ h => h) (Or.inl ⟨by rfl, ?_⟩) hHeld ?_
            rotate_left
            · intro w hSw; (try dsimp only at hSw); go_simp; (try with_reducible rfl)
            try simp only [Act.put, List.setIfInBounds_toArray, List.set_cons_zero, List.set_cons_succ]
            refine wpAnyK_takeL (i := 12) (v := ?_) rfl (by kernel_rfl) (by kernel_rfl) (by kernel_rfl) (by kernel_rfl) (fun _ _ _ h => h) (Or.inl ⟨by rfl, ?_⟩) hHeld ?_
            rotate_left
            · intro w hSw; (try dsimp only at hSw); go_simp; (try with_reducible rfl)
            try simp only [Act.put, List.setIfInBounds_toArray, List.set_cons_zero, List.set_cons_succ]
            refine wpAnyK_ready (rs := [9, 13]) (by kernel_rfl) (by simp) ?_
            refine AllReadyK.consL (i := 9) rfl (fun K hK => ?_) ?_
            · go_simp
              refine hK.out _ _ (fun _ => trivial) (fun hHeld2 => ?_)
              clear hK K
              try clear hHeld
              have hHeld := hHeld2 (by decide)
              clear hHeld2
              try simp only [Act.put, List.setIfInBounds_toArray, List.set_cons_zero, List.set_cons_succ]
              refine wpAnyK_ready (rs := [13]) (by kernel_rfl) (by simp) ?_
              refine AllReadyK.consL (i := 13) rfl (fun K hK => ?_) ?_
              · go_simp
                refine hK.out _ _ (fun _ => trivial) (fun hHeld2 => ?_)
                clear hK K
                try clear hHeld
                have hHeld := hHeld2 (by decide)
                clear hHeld2
                try simp only [Act.put, List.setIfInBounds_toArray, List.set_cons_zero, List.set_cons_succ]
                refine wpAnyK_takeL (i := 14) (v := ?_) rfl (by kernel_rfl) (by kernel_rfl) (by kernel_rfl) (by kernel_rfl) (fun _ _ _ h => h) (Or.inl ⟨by rfl, ?_⟩) hHeld ?_
                rotate_left
                · intro w hSw; (try dsimp only at hSw); go_simp; (try with_reducible rfl)
                try simp only [Act.put, List.setIfInBounds_toArray, List.set_cons_zero, List.set_cons_succ]
                refine wpAnyK_ready (rs := [15]) (by kernel_rfl) (by simp) ?_
                refine AllReadyK.consL (i := 15) rfl (fun K hK => ?_) ?_
                · refine step_setK (i := q + 1) (v := .int .i64 y) rfl rfl HB3.out rfl rfl HLZ.out (by kernel_rfl) rfl (by simp [Value.oneCell']) ?_
                  intro wB hw1 hb1 ho1
                  rw [iA_set] at hb1
                  clear hw1
                  refine hK.out _ _ (fun _ => trivial) (fun hHeld2 => ?_)
                  clear hK K
                  try clear hHeld
                  have hHeld := hHeld2 (by decide)
                  clear hHeld2
                  try simp only [Act.put, List.setIfInBounds_toArray, List.set_cons_zero, List.set_cons_succ]
                  refine wpAnyK_ready (rs := [16]) (by kernel_rfl) (by simp) ?_
                  refine AllReadyK.consL (i := 16) rfl (fun K hK => ?_) ?_
                  · go_simp
                    clear kw
                    refine hK.out _ _ (fun h => absurd h (by decide)) (fun hHeld2 => ?_)
                    clear hK K hHeld2
                    try clear hHeld
                    try simp only [Act.put, List.setIfInBounds_toArray, List.set_cons_zero, List.set_cons_succ]
                    refine wpAnyK_ready (rs := [17]) (by kernel_rfl) (by simp) ?_
                    refine AllReadyK.consL (i := 17) rfl (fun K hK => ?_) ?_
                    · refine step_setK (i := q) (v := .int .i64 x) rfl rfl hb1 rfl rfl (by have := HLZ.out; rw [iA_size] at this ⊢; rw [List.length_set]; omega) (by kernel_rfl) rfl (by simp [Value.oneCell']) ?_
                      intro wC hw2 hb2 ho2
                      rw [iA_set, ← HSW.out] at hb2
                      refine hK.out _ _ (fun h => absurd h (by decide)) (fun hHeld2 => ?_)
                      clear hK K hHeld2
                      try clear hHeld
                      try simp only [Act.put, List.setIfInBounds_toArray, List.set_cons_zero, List.set_cons_succ]
                      refine wpAnyK_done (by kernel_rfl) ?_ _
                      have HO4 := Lib.hid ((HO3.out.tr ho1).tr ho2)
                      have HB4 := Lib.hid hb2
                      clear HO3 HB3 hb1 hb2 ho1 ho2 hw2 c0 c1
                      go_wp2
                      go_roundw
                      case rel => exact ⟨q, by omega, by omega, by go_num, _, HB4, Lib.hid (by rw [swapAt_len]; exact HL3.out), HPS, HGO, HO4⟩
                      case measure => simp [intOf]
                    · exact AllReadyK.nil
                  · exact AllReadyK.nil
                · exact AllReadyK.nil
              · exact AllReadyK.nil
            · refine AllReadyK.consL (i := 13) rfl (fun K hK => ?_) ?_
              · go_simp
                refine hK.out _ _ (fun _ => trivial) (fun hHeld2 => ?_)
                clear hK K
                try clear hHeld
                have hHeld := hHeld2 (by decide)
                clear hHeld2
                try simp only [Act.put, List.setIfInBounds_toArray, List.set_cons_zero, List.set_cons_succ]
                refine wpAnyK_ready (rs := [9]) (by kernel_rfl) (by simp) ?_
                refine AllReadyK.consL (i := 9) rfl (fun K hK => ?_) ?_
                · go_simp
                  refine hK.out _ _ (fun _ => trivial) (fun hHeld2 => ?_)
                  clear hK K
                  try clear hHeld
                  have hHeld := hHeld2 (by decide)
                  clear hHeld2
                  try simp only [Act.put, List.setIfInBounds_toArray, List.set_cons_zero, List.set_cons_succ]
                  refine wpAnyK_takeL (i := 14) (v := ?_) rfl (by kernel_rfl) (by kernel_rfl) (by kernel_rfl) (by kernel_rfl) (fun _ _ _ h => h) (Or.inl ⟨by rfl, ?_⟩) hHeld ?_
                  rotate_left
                  · intro w hSw; (try dsimp only at hSw); go_simp; (try with_reducible rfl)
                  try simp only [Act.put, List.setIfInBounds_toArray, List.set_cons_zero, List.set_cons_succ]
                  refine wpAnyK_ready (rs := [15]) (by kernel_rfl) (by simp) ?_
                  refine AllReadyK.consL (i := 15) rfl (fun K hK => ?_) ?_
                  · refine step_setK (i := q + 1) (v := .int .i64 y) rfl rfl HB3.out rfl rfl HLZ.out (by kernel_rfl) rfl (by simp [Value.oneCell']) ?_
                    intro wB hw1 hb1 ho1
                    rw [iA_set] at hb1
                    clear hw1
                    refine hK.out _ _ (fun _ => trivial) (fun hHeld2 => ?_)
                    clear hK K
                    try clear hHeld
                    have hHeld := hHeld2 (by decide)
                    clear hHeld2
                    try simp only [Act.put, List.setIfInBounds_toArray, List.set_cons_zero, List.set_cons_succ]
                    refine wpAnyK_ready (rs := [16]) (by kernel_rfl) (by simp) ?_
                    refine AllReadyK.consL (i := 16) rfl (fun K hK => ?_) ?_
                    · go_simp
                      clear kw
                      refine hK.out _ _ (fun h => absurd h (by decide)) (fun hHeld2 => ?_)
                      clear hK K hHeld2
                      try clear hHeld
                      try simp only [Act.put, List.setIfInBounds_toArray, List.set_cons_zero, List.set_cons_succ]
                      refine wpAnyK_ready (rs := [17]) (by kernel_rfl) (by simp) ?_
                      refine AllReadyK.consL (i := 17) rfl (fun K hK => ?_) ?_
                      · refine step_setK (i := q) (v := .int .i64 x) rfl rfl hb1 rfl rfl (by have := HLZ.out; rw [iA_size] at this ⊢; rw [List.length_set]; omega) (by kernel_rfl) rfl (by simp [Value.oneCell']) ?_
                        intro wC hw2 hb2 ho2
                        rw [iA_set, ← HSW.out] at hb2
                        refine hK.out _ _ (fun h => absurd h (by decide)) (fun hHeld2 => ?_)
                        clear hK K hHeld2
                        try clear hHeld
                        try simp only [Act.put, List.setIfInBounds_toArray, List.set_cons_zero, List.set_cons_succ]
                        refine wpAnyK_done (by kernel_rfl) ?_ _
                        have HO4 := Lib.hid ((HO3.out.tr ho1).tr ho2)
                        have HB4 := Lib.hid hb2
                        clear HO3 HB3 hb1 hb2 ho1 ho2 hw2 c0 c1
                        go_wp2
                        go_roundw
                        case rel => exact ⟨q, by omega, by omega, by go_num, _, HB4, Lib.hid (by rw [swapAt_len]; exact HL3.out), HPS, HGO, HO4⟩
                        case measure => simp [intOf]
                      · exact AllReadyK.nil
                    · exact AllReadyK.nil
                  · exact AllReadyK.nil
                · exact AllReadyK.nil
              · exact AllReadyK.nil
          · have HGO : Hid (insJ cmp a (a + c + 1) ys = zs) := by
              show _ = _
              rw [HE3.out, insJ_end cmp a q zs (by rw [← hx, ← hy, ← hz]; exact hneg)]
            have HQ := Lib.hid hq
            clear hq
            clear hx hy hz hp1 hp0 hl3
            go_upto_region 4 with (fail)
            go_quiet ((exact Calls.quiet_of (HQ.out _)))
            go_wp2
            refine ⟨⟨c + 1, hic, congrArg (Value.int .i64) (by have := HI.out; omega), Lib.hid ?_, Lib.hid ?_, Lib.hid (HO3.out.tr (Only.of_ext (Ext.of_drewN _ _)))⟩, by simp [intOf]; omega⟩
            · rw [HE.out, HGO.out]; exact HB3.out.ext (Ext.of_drewN _ _)
            · rw [HE.out, HGO.out]; exact HP3.out
        · obtain rfl : j = a := by omega
          have HGO : Hid (insJ cmp j (j + c + 1) ys = zs) := by show _ = _; rw [HE3.out, insJ_stop cmp j j zs (by omega)]
          clear haj
          go_upto_region 4 with (fail)
          go_quiet (fail)
          go_wp2
          refine ⟨⟨c + 1, hic, congrArg (Value.int .i64) (by have := HI.out; omega), Lib.hid ?_, Lib.hid ?_, Lib.hid (HO3.out.tr (Only.of_ext (Ext.of_drewN _ _)))⟩, by simp [intOf]; omega⟩
          · rw [HE.out, HGO.out]; exact HB3.out.ext (Ext.of_drewN _ _)
          · rw [HE.out, HGO.out]; exact HP3.out
    · obtain rfl : c = b - (a + 1) := by omega
      clear hi
      go_wp2
      go_end0
      exact ⟨rfl, HB2.out, HO.out⟩
end Go.Proofs.Ytekplfbfkfiabaa
