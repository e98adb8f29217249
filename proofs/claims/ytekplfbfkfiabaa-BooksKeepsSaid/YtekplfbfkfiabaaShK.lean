import Derived.Test.YtekplfbfkfiabaaBkCl0
/- The library's insertion sort of a row of numbers, by a comparing function. -/
namespace Go.Proofs.Ytekplfbfkfiabaa
open Go.RowKit
set_option linter.unusedVariables false
set_option linter.unusedSimpArgs false

def gI (xs : List Int) (i : Nat) : Int := xs.getD i 0
def swapAt (xs : List Int) (j : Nat) : List Int := (xs.set (j + 1) (gI xs j)).set j (gI xs (j + 1))
/-- The element at j goes down, not below a. -/
def insJ (cmp : Int → Int → Int) (a : Nat) : Nat → List Int → List Int
  | 0, xs => xs
  | j + 1, xs => if a < j + 1 ∧ cmp (gI xs (j + 1)) (gI xs j) < 0 then insJ cmp a j (swapAt xs j) else xs
def insN (cmp : Int → Int → Int) (a : Nat) : Nat → List Int → List Int
  | 0, xs => xs
  | c + 1, xs => insJ cmp a (a + c + 1) (insN cmp a c xs)
theorem swapAt_len (xs : List Int) (j : Nat) : (swapAt xs j).length = xs.length := by simp [swapAt]
theorem insJ_len (cmp : Int → Int → Int) (a : Nat) : ∀ (j : Nat) (xs : List Int), (insJ cmp a j xs).length = xs.length
  | 0, _ => rfl
  | j + 1, xs => by unfold insJ; split; rw [insJ_len cmp a j, swapAt_len]; rfl
theorem insN_len (cmp : Int → Int → Int) (a : Nat) : ∀ (c : Nat) (xs : List Int), (insN cmp a c xs).length = xs.length
  | 0, _ => rfl
  | c + 1, xs => by unfold insN; rw [insJ_len, insN_len cmp a c]
theorem swapAt_all {P : Int → Prop} {xs : List Int} {j : Nat} (hj : j + 1 < xs.length) (h : ∀ x ∈ xs, P x) : ∀ x ∈ swapAt xs j, P x := by
  intro x hx
  unfold swapAt at hx
  have h0 : gI xs j ∈ xs := by unfold gI; rw [List.getD_eq_getElem?_getD, List.getElem?_eq_getElem (show j < xs.length by omega)]; exact List.getElem_mem _
  have h1 : gI xs (j + 1) ∈ xs := by unfold gI; rw [List.getD_eq_getElem?_getD, List.getElem?_eq_getElem hj]; exact List.getElem_mem _
  rcases List.mem_or_eq_of_mem_set hx with hx | rfl
  · rcases List.mem_or_eq_of_mem_set hx with hx | rfl
    · exact h x hx
    · exact h _ h0
  · exact h _ h1
theorem insJ_all {P : Int → Prop} (cmp : Int → Int → Int) (a : Nat) : ∀ (j : Nat) (xs : List Int), j < xs.length ∨ j = 0 → (∀ x ∈ xs, P x) → ∀ x ∈ insJ cmp a j xs, P x
  | 0, _, _, h => h
  | j + 1, xs, hj, h => by
    unfold insJ; split
    · exact insJ_all cmp a j _ (by rw [swapAt_len]; omega) (swapAt_all (by omega) h)
    · exact h
theorem gI_get {xs : List Int} {i : Nat} (h : i < xs.length) : gI xs i = xs[i] := by unfold gI; rw [List.getD_eq_getElem?_getD, List.getElem?_eq_getElem h]; rfl

def iA (xs : List Int) : Array Value := (iV xs).toArray
theorem iA_size (xs : List Int) : (iA xs).size = xs.length := by simp [iA, iV]
theorem iA_get {xs : List Int} {i : Nat} (h : i < xs.length) : (iA xs)[i]? = some (.int .i64 (gI xs i)) := by
  rw [gI_get h]; simp [iA, iV, h]
theorem iA_set (xs : List Int) (i : Nat) (x : Int) : (iA xs).setIfInBounds i (.int .i64 x) = iA (xs.set i x) := by
  simp [iA, iV, List.map_set]
theorem Blk.int {w : World} {g : Nat} {xs : List Int} {t : TypeId} (h : Blk w g (iA xs) t) {i : Nat} (hi : i < xs.length) : w.cell? ⟨g, i, none⟩ = some (.int .i64 (gI xs i)) := by
  rw [h.cell, iA_get hi]

theorem insJ_stop (cmp : Int → Int → Int) (a j : Nat) (xs : List Int) (h : ¬ a < j) : insJ cmp a j xs = xs := by
  cases j with
  | zero => rfl
  | succ j => unfold insJ; rw [if_neg (fun hh => h hh.1)]
theorem insJ_end (cmp : Int → Int → Int) (a j : Nat) (xs : List Int) (h : ¬ cmp (gI xs (j + 1)) (gI xs j) < 0) : insJ cmp a (j + 1) xs = xs := by
  unfold insJ; rw [if_neg (fun hh => h hh.2)]
theorem insJ_go (cmp : Int → Int → Int) (a j : Nat) (xs : List Int) (h : a < j + 1) (h2 : cmp (gI xs (j + 1)) (gI xs j) < 0) : insJ cmp a (j + 1) xs = insJ cmp a j (swapAt xs j) := by
  show (if a < j + 1 ∧ cmp (gI xs (j + 1)) (gI xs j) < 0 then insJ cmp a j (swapAt xs j) else xs) = _
  rw [if_pos ⟨h, h2⟩]
/-- What a comparing function is: it reads, whatever was done to the row. -/
def CmpOk (w : World) (g : Nat) (caps : Array Value) (cmp : Int → Int → Int) (P : Int → Prop) : Prop :=
  ∀ w1, Only (fun k => k = g) w w1 → ∀ x y, P x → P y → Calls Try.prog 56 (#[.int .i64 x, .int .i64 y] ++ caps) w1 fun e w2 => e = .returned (.int .i64 (cmp x y)) ∧ ∃ n, w2 = w1.drewN n

set_option maxRecDepth 100000 in
set_option maxHeartbeats 4000000 in
theorem insertion_any (g : Nat) (caps : Array Value) (cmp : Int → Int → Int) (P : Int → Prop) (xs : List Int) (n a b : Nat) (w : World) (hb : Blk w g (iA xs) 3) (hn : xs.length = n) (hn2 : n ≤ 1000) (hab : a ≤ b) (hbn : b ≤ n)
    (hP : ∀ x ∈ xs, P x) (hc : CmpOk w g caps cmp P) :
    Calls Try.prog 114 #[.slice (some ⟨g, 0, none⟩) n n, .int .i64 a, .int .i64 b, .func (.func 56) #[] caps] w fun e w' => e = .returned (.tuple #[]) ∧ Blk w' g (iA (insN cmp a (b - (a + 1)) xs)) 3 ∧ Only (fun k => k = g) w w' := by
  have HB := Lib.hid hb
  have HP := Lib.hid hP
  have HC := Lib.hid hc
  have HN := Lib.hid hn
  clear hb hP hc hn
  go_enter Try.func114, Try.ntmps114
  go_wp2
  go_loopw [8] (fun t wr => ∃ c : Nat, c ≤ b - (a + 1) ∧ t = .int .i64 ((a + 1 + c : Nat) : Int) ∧ Hid (Blk wr g (iA (insN cmp a c xs)) 3) ∧ Hid (∀ x ∈ insN cmp a c xs, P x) ∧ Hid (Only (fun k => k = g) w wr)) (fun t _ => b - (intOf t).toNat)
  case atStart => exact ⟨0, Nat.zero_le _, by go_num, HB.out, HP.out, Only.refl _ _⟩
  case round =>
    obtain ⟨c, hc2, rfl, HB2, HP2, HO⟩ := hrel
    clear HB HP
    obtain ⟨i, hi⟩ : ∃ i : Nat, i = a + 1 + c := ⟨_, rfl⟩
    rw [← hi]
    have HI := Lib.hid hi
    by_cases hlt : i < b
    · have hic : c + 1 ≤ b - (a + 1) := by omega
      have hl2 : (insN cmp a c xs).length = n := by rw [insN_len]; exact HN.out
      obtain ⟨ys, hys⟩ : ∃ ys, ys = insN cmp a c xs := ⟨_, rfl⟩
      rw [← hys] at HB2 HP2 hl2
      have HE := Lib.hid (show insN cmp a (c + 1) xs = insJ cmp a (a + c + 1) ys by rw [hys]; rfl)
      have HL := Lib.hid hl2
      clear hys hl2
      obtain ⟨w0, hw0⟩ : ∃ W, W = wr := ⟨wr, rfl⟩
      subst hw0
      clear hi
      go_upto_region 4 with (fail)
      go_loopw [9] (fun t wr => ∃ j : Nat, a ≤ j ∧ j ≤ i ∧ t = .int .i64 j ∧ ∃ zs, Hid (Blk wr g (iA zs) 3) ∧ Hid (zs.length = n) ∧ Hid (∀ x ∈ zs, P x) ∧ Hid (insJ cmp a (a + c + 1) ys = insJ cmp a j zs) ∧ Hid (Only (fun k => k = g) w wr)) (fun t _ => (intOf t).toNat)
      case atStart => exact ⟨i, by have := HI.out; omega, Nat.le_refl _, rfl, ys, HB2, HL, HP2, by show _ = _; rw [show a + c + 1 = i by have := HI.out; omega], HO⟩
      case round =>
        obtain ⟨j, hj1, hj2, rfl, zs, HB3, HL3, HP3, HE3, HO3⟩ := hrel
        by_cases haj : a < j
        · obtain ⟨q, rfl⟩ : ∃ q, j = q + 1 := ⟨j - 1, by omega⟩
          have hl3 := HL3.out
          have c1 := HB3.out.int (show q + 1 < zs.length by omega)
          have c0 := HB3.out.int (show q < zs.length by omega)
          have hp1 : P (gI zs (q + 1)) := by rw [gI_get (show q + 1 < zs.length by omega)]; exact HP3.out _ (List.getElem_mem _)
          have hp0 : P (gI zs q) := by rw [gI_get (show q < zs.length by omega)]; exact HP3.out _ (List.getElem_mem _)
          have HPS : Hid (∀ x ∈ swapAt zs q, P x) := swapAt_all (by omega) HP3.out
          obtain ⟨x, hx⟩ : ∃ x, x = gI zs (q + 1) := ⟨_, rfl⟩
          obtain ⟨y, hy⟩ : ∃ y, y = gI zs q := ⟨_, rfl⟩
          rw [← hx] at c1 hp1
          rw [← hy] at c0 hp0
          have hq := fun nn => HC.out (wr.drewN nn) (HO3.out.tr (Only.of_ext (Ext.of_drewN wr nn))) x y hp1 hp0
          obtain ⟨z, hz⟩ : ∃ z, z = cmp x y := ⟨_, rfl⟩
          rw [← hz] at hq
          have HXY := Lib.hid (And.intro hx hy)
          have HSW : Hid (swapAt zs q = (zs.set (q + 1) y).set q x) := by show swapAt zs q = _; rw [hx, hy]; rfl
          have k1 : (q : Int) + 1 - 1 = (q : Int) := by omega
          have k2 : (0:Int) ≤ (q:Int) := by omega
          have k3 : (q : Int) + 1 < (n : Int) := by omega
          have k4 : (q : Int) < (n : Int) := by omega
          have k5 : decide ((a : Int) < (q : Int) + 1) = true := decide_eq_true (by omega)
          by_cases hneg : z < 0
          · have HGO : Hid (insJ cmp a (a + c + 1) ys = insJ cmp a q (swapAt zs q)) := by
              show _ = _
              rw [HE3.out, insJ_go cmp a q zs (by omega) (by rw [← hx, ← hy, ← hz]; exact hneg)]
            have HQ := Lib.hid hq
            clear hq
            clear hx hy hz hp1 hp0 hl3
            go_upto_region 4 with (fail)
            go_quiet ((exact Calls.quiet_of (HQ.out _)))
            have hxq : Ext wr (wr.drewN nq) := Ext.of_drewN _ _
            replace HB3 := Lib.hid (HB3.out.ext hxq)
            replace HO3 := Lib.hid (HO3.out.tr (Only.of_ext hxq))
            generalize wr.drewN nq = wq at *
            clear hxq c0 c1 HQ
            go_upto_region 6 with (fail)
            have hxd : Ext wq wq.drew := (Below.refl _ wq).drew
            have hb3 := HB3.out.ext hxd
            have ho3 := HO3.out.tr (Only.of_ext hxd)
            refine wp_region_K (fun _ => True) 16 (by kernel_rfl) trivial (fun hHeld => ?_)
            generalize wq.drew = wA at *
            have hl3 := HL3.out
            have c1 := hb3.int (show q + 1 < zs.length by omega)
            have c0 := hb3.int (show q < zs.length by omega)
            rw [← HXY.out.1] at c1
            rw [← HXY.out.2] at c0
            have HLZ := Lib.hid (show q + 1 < (iA zs).size by rw [iA_size]; omega)
            clear HB3 HO3 hxd hl3
            have HB3 := Lib.hid hb3
            have HO3 := Lib.hid ho3
            clear hb3 ho3
            have kw : IntKind.i64.wrap (q:Int) = (q:Int) := i64_eq _ ⟨by omega, by omega⟩
            have k6 : (0:Int) ≤ (q:Int) + 1 := by omega
            refine wpAnyK_takeL (i := 0) (v := ?_) rfl (by kernel_rfl) (by kernel_rfl) (by kernel_rfl) (by kernel_rfl) (fun _ _ _ h => h) (Or.inl ⟨by rfl, ?_⟩) hHeld ?_
            rotate_left
            · intro w hSw; (try dsimp only at hSw); go_simp; (try with_reducible rfl)
            try simp only [Act.put, List.setIfInBounds_toArray, List.set_cons_zero, List.set_cons_succ]
            refine wpAnyK_takeL (i := 1) (v := ?_) rfl (by kernel_rfl) (by kernel_rfl) (by kernel_rfl) (by kernel_rfl) (fun _ _ _ h => h) (Or.inl ⟨by rfl, ?_⟩) hHeld ?_
            rotate_left
            · intro w hSw; (try dsimp only at hSw); go_simp; (try with_reducible rfl)
            try simp only [Act.put, List.setIfInBounds_toArray, List.set_cons_zero, List.set_cons_succ]
            refine wpAnyK_takeL (i := 2) (v := ?_) rfl (by kernel_rfl) (by kernel_rfl) (by kernel_rfl) (by kernel_rfl) (fun _ _ _ h => h) (Or.inl ⟨by rfl, ?_⟩) hHeld ?_
            rotate_left
            · intro w hSw; (try dsimp only at hSw); go_simp; (try with_reducible rfl)
            try simp only [Act.put, List.setIfInBounds_toArray, List.set_cons_zero, List.set_cons_succ]
            refine wpAnyK_takeL (i := 3) (v := ?_) rfl (by kernel_rfl) (by kernel_rfl) (by kernel_rfl) (by kernel_rfl) (fun _ _ _ h => h) (Or.inl ⟨by rfl, ?_⟩) hHeld ?_
            rotate_left
            · intro w hSw; (try dsimp only at hSw); go_simp; (try with_reducible rfl)
            try simp only [Act.put, List.setIfInBounds_toArray, List.set_cons_zero, List.set_cons_succ]
            refine wpAnyK_takeL (i := 4) (v := ?_) rfl (by kernel_rfl) (by kernel_rfl) (by kernel_rfl) (by kernel_rfl) (fun _ _ _ h => h) (Or.inl ⟨by rfl, ?_⟩) hHeld ?_
            rotate_left
            · intro w hSw; (try dsimp only at hSw); go_simp; (try with_reducible rfl)
            try simp only [Act.put, List.setIfInBounds_toArray, List.set_cons_zero, List.set_cons_succ]
            refine wpAnyK_takeL (i := 5) (v := ?_) rfl (by kernel_rfl) (by kernel_rfl) (by kernel_rfl) (by kernel_rfl) (fun _ _ _ h => h) (Or.inl ⟨by rfl, ?_⟩) hHeld ?_
            rotate_left
            · intro w hSw; (try dsimp only at hSw); go_simp; (try with_reducible rfl)
            try simp only [Act.put, List.setIfInBounds_toArray, List.set_cons_zero, List.set_cons_succ]
            refine wpAnyK_takeL (i := 6) (v := ?_) rfl (by kernel_rfl) (by kernel_rfl) (by kernel_rfl) (by kernel_rfl) (fun _ _ _ h => h) (Or.inl ⟨by rfl, ?_⟩) hHeld ?_
            rotate_left
            · intro w hSw; (try dsimp only at hSw); go_simp; (try with_reducible rfl)
            try simp only [Act.put, List.setIfInBounds_toArray, List.set_cons_zero, List.set_cons_succ]
            refine wpAnyK_takeL (i := 7) (v := ?_) rfl (by kernel_rfl) (by kernel_rfl) (by kernel_rfl) (by kernel_rfl) (fun _ _ _ h => h) (Or.inl ⟨by rfl, ?_⟩) hHeld ?_
            rotate_left
            · intro w hSw; (try dsimp only at hSw); go_simp; (try with_reducible rfl)
            try simp only [Act.put, List.setIfInBounds_toArray, List.set_cons_zero, List.set_cons_succ]
            refine wpAnyK_takeL (i := 8) (v := ?_) rfl (by kernel_rfl) (by kernel_rfl) (by kernel_rfl) (by kernel_rfl) (fun _ _ _ h => h) (Or.inl ⟨by rfl, ?_⟩) hHeld ?_
            rotate_left
            · intro w hSw; (try dsimp only at hSw); go_simp; (try with_reducible rfl)
            try simp only [Act.put, List.setIfInBounds_toArray, List.set_cons_zero, List.set_cons_succ]
            refine wpAnyK_takeL (i := 10) (v := ?_) rfl (by kernel_rfl) (by kernel_rfl) (by kernel_rfl) (by kernel_rfl) (fun _ _ _ h => h) (Or.inl ⟨by rfl, ?_⟩) hHeld ?_
            rotate_left
            · intro w hSw; (try dsimp only at hSw); go_simp; (try with_reducible rfl)
            try simp only [Act.put, List.setIfInBounds_toArray, List.set_cons_zero, List.set_cons_succ]
            refine wpAnyK_takeL (i := 11) (v := ?_) rfl (by kernel_rfl) (by kernel_rfl) (by kernel_rfl) (by kernel_rfl) (fun _ _ _ h => h) (Or.inl ⟨by rfl, ?_⟩) hHeld ?_
            rotate_left
            · intro w hSw; (try dsimp only at hSw); go_simp; (try with_reducible rfl)
            try simp only [Act.put, List.setIfInBounds_toArray, List.set_cons_zero, List.set_cons_succ]
            refine wpAnyK_takeL (i := 12) (v := ?_) rfl (by kernel_rfl) (by kernel_rfl) (by kernel_rfl) (by kernel_rfl) (fun _ _ _ h => h) (Or.inl ⟨by rfl, ?_⟩) hHeld ?_
            rotate_left
            · intro w hSw; (try dsimp only at hSw); go_simp; (try with_reducible rfl)
            try simp only [Act.put, List.setIfInBounds_toArray, List.set_cons_zero, List.set_cons_succ]
            refine wpAnyK_ready (rs := [9, 13]) (by kernel_rfl) (by simp) ?_
            refine AllReadyK.consL (i := 9) rfl (fun K hK => ?_) ?_
            · go_simp
              refine hK.out _ _ (fun _ => trivial) (fun hHeld2 => ?_)
              clear hK K
              try clear hHeld
              have hHeld := hHeld2 (by decide)
              clear hHeld2
              try simp only [Act.put, List.setIfInBounds_toArray, List.set_cons_zero, List.set_cons_succ]
              refine wpAnyK_ready (rs := [13]) (by kernel_rfl) (by simp) ?_
              refine AllReadyK.consL (i := 13) rfl (fun K hK => ?_) ?_
              · go_simp
                refine hK.out _ _ (fun _ => trivial) (fun hHeld2 => ?_)
                clear hK K
                try clear hHeld
                have hHeld := hHeld2 (by decide)
                clear hHeld2
                try simp only [Act.put, List.setIfInBounds_toArray, List.set_cons_zero, List.set_cons_succ]
                refine wpAnyK_takeL (i := 14) (v := ?_) rfl (by kernel_rfl) (by kernel_rfl) (by kernel_rfl) (by kernel_rfl) (fun _ _ _ h => h) (Or.inl ⟨by rfl, ?_⟩) hHeld ?_
                rotate_left
                · intro w hSw; (try dsimp only at hSw); go_simp; (try with_reducible rfl)
                try simp only [Act.put, List.setIfInBounds_toArray, List.set_cons_zero, List.set_cons_succ]
                refine wpAnyK_ready (rs := [15]) (by kernel_rfl) (by simp) ?_
                refine AllReadyK.consL (i := 15) rfl (fun K hK => ?_) ?_
                · refine step_setK (i := q + 1) (v := .int .i64 y) rfl rfl HB3.out rfl rfl HLZ.out (by kernel_rfl) rfl (by simp [Value.oneCell']) ?_
                  intro wB hw1 hb1 ho1
                  rw [iA_set] at hb1
                  clear hw1
                  refine hK.out _ _ (fun _ => trivial) (fun hHeld2 => ?_)
                  clear hK K
                  try clear hHeld
                  have hHeld := hHeld2 (by decide)
                  clear hHeld2
                  try simp only [Act.put, List.setIfInBounds_toArray, List.set_cons_zero, List.set_cons_succ]
                  refine wpAnyK_ready (rs := [16]) (by kernel_rfl) (by simp) ?_
                  refine AllReadyK.consL (i := 16) rfl (fun K hK => ?_) ?_
                  · go_simp
                    clear kw
                    refine hK.out _ _ (fun h => absurd h (by decide)) (fun hHeld2 => ?_)
                    clear hK K hHeld2
                    try clear hHeld
                    try simp only [Act.put, List.setIfInBounds_toArray, List.set_cons_zero, List.set_cons_succ]
                    refine wpAnyK_ready (rs := [17]) (by kernel_rfl) (by simp) ?_
                    refine AllReadyK.consL (i := 17) rfl (fun K hK => ?_) ?_
                    · refine step_setK (i := q) (v := .int .i64 x) rfl rfl hb1 rfl rfl (by have := HLZ.out; rw [iA_size] at this ⊢; rw [List.length_set]; omega) (by kernel_rfl) rfl (by simp [Value.oneCell']) ?_
                      intro wC hw2 hb2 ho2
                      rw [iA_set, ← HSW.out] at hb2
                      refine hK.out _ _ (fun h => absurd h (by decide)) (fun hHeld2 => ?_)
                      clear hK K hHeld2
                      try clear hHeld
                      try simp only [Act.put, List.setIfInBounds_toArray, List.set_cons_zero, List.set_cons_succ]
                      refine wpAnyK_done (by kernel_rfl) ?_ _
                      have HO4 := Lib.hid ((HO3.out.tr ho1).tr ho2)
                      have HB4 := Lib.hid hb2
                      clear HO3 HB3 hb1 hb2 ho1 ho2 hw2 c0 c1
                      go_wp2
                      go_roundw
                      case rel => exact ⟨q, by omega, by omega, by go_num, _, HB4, Lib.hid (by rw [swapAt_len]; exact HL3.out), HPS, HGO, HO4⟩
                      case measure => simp [intOf]
                    · exact AllReadyK.nil
                  · exact AllReadyK.nil
                · exact AllReadyK.nil
              · exact AllReadyK.nil
            · refine AllReadyK.consL (i := 13) rfl (fun K hK => ?_) ?_
              · go_simp
                refine hK.out _ _ (fun _ => trivial) (fun hHeld2 => ?_)
                clear hK K
                try clear hHeld
                have hHeld := hHeld2 (by decide)
                clear hHeld2
                try simp only [Act.put, List.setIfInBounds_toArray, List.set_cons_zero, List.set_cons_succ]
                refine wpAnyK_ready (rs := [9]) (by kernel_rfl) (by simp) ?_
                refine AllReadyK.consL (i := 9) rfl (fun K hK => ?_) ?_
                · go_simp
                  refine hK.out _ _ (fun _ => trivial) (fun hHeld2 => ?_)
                  clear hK K
                  try clear hHeld
                  have hHeld := hHeld2 (by decide)
                  clear hHeld2
                  try simp only [Act.put, List.setIfInBounds_toArray, List.set_cons_zero, List.set_cons_succ]
                  refine wpAnyK_takeL (i := 14) (v := ?_) rfl (by kernel_rfl) (by kernel_rfl) (by kernel_rfl) (by kernel_rfl) (fun _ _ _ h => h) (Or.inl ⟨by rfl, ?_⟩) hHeld ?_
                  rotate_left
                  · intro w hSw; (try dsimp only at hSw); go_simp; (try with_reducible rfl)
                  try simp only [Act.put, List.setIfInBounds_toArray, List.set_cons_zero, List.set_cons_succ]
                  refine wpAnyK_ready (rs := [15]) (by kernel_rfl) (by simp) ?_
                  refine AllReadyK.consL (i := 15) rfl (fun K hK => ?_) ?_
                  · refine step_setK (i := q + 1) (v := .int .i64 y) rfl rfl HB3.out rfl rfl HLZ.out (by kernel_rfl) rfl (by simp [Value.oneCell']) ?_
                    intro wB hw1 hb1 ho1
                    rw [iA_set] at hb1
                    clear hw1
                    refine hK.out _ _ (fun _ => trivial) (fun hHeld2 => ?_)
                    clear hK K
                    try clear hHeld
                    have hHeld := hHeld2 (by decide)
                    clear hHeld2
                    try simp only [Act.put, List.setIfInBounds_toArray, List.set_cons_zero, List.set_cons_succ]
                    refine wpAnyK_ready (rs := [16]) (by kernel_rfl) (by simp) ?_
                    refine AllReadyK.consL (i := 16) rfl (fun K hK => ?_) ?_
                    · go_simp
                      clear kw
                      refine hK.out _ _ (fun h => absurd h (by decide)) (fun hHeld2 => ?_)
                      clear hK K hHeld2
                      try clear hHeld
                      try simp only [Act.put, List.setIfInBounds_toArray, List.set_cons_zero, List.set_cons_succ]
                      refine wpAnyK_ready (rs := [17]) (by kernel_rfl) (by simp) ?_
                      refine AllReadyK.consL (i := 17) rfl (fun K hK => ?_) ?_
                      · refine step_setK (i := q) (v := .int .i64 x) rfl rfl hb1 rfl rfl (by have := HLZ.out; rw [iA_size] at this ⊢; rw [List.length_set]; omega) (by kernel_rfl) rfl (by simp [Value.oneCell']) ?_
                        intro wC hw2 hb2 ho2
                        rw [iA_set, ← HSW.out] at hb2
                        refine hK.out _ _ (fun h => absurd h (by decide)) (fun hHeld2 => ?_)
                        clear hK K hHeld2
                        try clear hHeld
                        try simp only [Act.put, List.setIfInBounds_toArray, List.set_cons_zero, List.set_cons_succ]
                        refine wpAnyK_done (by kernel_rfl) ?_ _
                        have HO4 := Lib.hid ((HO3.out.tr ho1).tr ho2)
                        have HB4 := Lib.hid hb2
                        clear HO3 HB3 hb1 hb2 ho1 ho2 hw2 c0 c1
                        go_wp2
                        go_roundw
                        case rel => exact ⟨q, by omega, by omega, by go_num, _, HB4, Lib.hid (by rw [swapAt_len]; exact HL3.out), HPS, HGO, HO4⟩
                        case measure => simp [intOf]
                      · exact AllReadyK.nil
                    · exact AllReadyK.nil
                  · exact AllReadyK.nil
                · exact AllReadyK.nil
              · exact AllReadyK.nil
          · have HGO : Hid (insJ cmp a (a + c + 1) ys = zs) := by
              show _ = _
              rw [HE3.out, insJ_end cmp a q zs (by rw [← hx, ← hy, ← hz]; exact hneg)]
            have HQ := Lib.hid hq
            clear hq
            clear hx hy hz hp1 hp0 hl3
            go_upto_region 4 with (fail)
            go_quiet ((exact Calls.quiet_of (HQ.out _)))
            go_wp2
            refine ⟨⟨c + 1, hic, congrArg (Value.int .i64) (by have := HI.out; omega), Lib.hid ?_, Lib.hid ?_, Lib.hid (HO3.out.tr (Only.of_ext (Ext.of_drewN _ _)))⟩, by simp [intOf]; omega⟩
            · rw [HE.out, HGO.out]; exact HB3.out.ext (Ext.of_drewN _ _)
            · rw [HE.out, HGO.out]; exact HP3.out
        · obtain rfl : j = a := by omega
          have HGO : Hid (insJ cmp j (j + c + 1) ys = zs) := by show _ = _; rw [HE3.out, insJ_stop cmp j j zs (by omega)]
          clear haj
          go_upto_region 4 with (fail)
          go_quiet (fail)
          go_wp2
          refine ⟨⟨c + 1, hic, congrArg (Value.int .i64) (by have := HI.out; omega), Lib.hid ?_, Lib.hid ?_, Lib.hid (HO3.out.tr (Only.of_ext (Ext.of_drewN _ _)))⟩, by simp [intOf]; omega⟩
          · rw [HE.out, HGO.out]; exact HB3.out.ext (Ext.of_drewN _ _)
          · rw [HE.out, HGO.out]; exact HP3.out
    · obtain rfl : c = b - (a + 1) := by omega
      clear hi
      go_wp2
      go_end0
      exact ⟨rfl, HB2.out, HO.out⟩
end Go.Proofs.Ytekplfbfkfiabaa

/- What Share calls: cmp.Compare, the comparing function, the stable sort of few, ContainsFunc of numbers. -/
namespace Go.Proofs.Ytekplfbfkfiabaa
open Go.RowKit
set_option linter.unusedVariables false
set_option linter.unusedSimpArgs false

def cmpI (x y : Int) : Int := if x < y then -1 else if y < x then 1 else 0
theorem isNaN_any (x : Int) (w : World) : Calls Try.prog 92 #[.int .i64 x] w fun e w' => e = .returned (.bool false) ∧ w' = w := by
  go_enter Try.func92, Try.ntmps92
  go_wp2
  go_ret
  exact ⟨ret_bool (by simp), rfl⟩
theorem compare_any (x y : Int) (w : World) : Calls Try.prog 57 #[.int .i64 x, .int .i64 y] w fun e w' => e = .returned (.int .i64 (cmpI x y)) ∧ w' = w := by
  rcases Int.lt_trichotomy x y with h | h | h
  · have HC := Lib.hid (show cmpI x y = -1 by unfold cmpI; rw [if_pos h])
    go_enter Try.func57, Try.ntmps57
    go_wp2_with (go_at_call 92; refine (isNaN_any _ _).mono ?_; rintro e w' ⟨rfl, rfl⟩)
    go_ret
    exact ⟨ret_int HC.out.symm, rfl⟩
  · have HC := Lib.hid (show cmpI x y = 0 by unfold cmpI; rw [if_neg (by omega), if_neg (by omega)])
    subst h
    go_enter Try.func57, Try.ntmps57
    go_wp2_with (go_at_call 92; refine (isNaN_any _ _).mono ?_; rintro e w' ⟨rfl, rfl⟩)
    go_ret
    exact ⟨ret_int HC.out.symm, rfl⟩
  · have HC := Lib.hid (show cmpI x y = 1 by unfold cmpI; rw [if_neg (by omega), if_pos h])
    have h2 : decide (x < y) = false := decide_eq_false (by omega)
    go_enter Try.func57, Try.ntmps57
    go_wp2_with (go_at_call 92; refine (isNaN_any _ _).mono ?_; rintro e w' ⟨rfl, rfl⟩)
    go_ret
    exact ⟨ret_int HC.out.symm, rfl⟩

/-- What is cut off of a share. -/
def remS (t : Int) (ws : List Int) (S i : Int) : Int := (t * gI ws i.toNat) % S
def cmpS (t : Int) (ws : List Int) (S a b : Int) : Int := cmpI (remS t ws S b) (remS t ws S a)

set_option maxRecDepth 100000 in
set_option maxHeartbeats 2000000 in
theorem shareCmp_any (t S : Int) (ws : List Int) (vw : Value) (tb wb sb : Nat) (x y : Int) (w : World) (ht : w.cell? ⟨tb, 0, none⟩ = some (.int .i64 t)) (hw : w.cell? ⟨wb, 0, none⟩ = some vw) (hs : w.cell? ⟨sb, 0, none⟩ = some (.int .i64 S)) (hv : Ints w vw ws)
    (h1 : 0 ≤ t ∧ t ≤ 1000000000000) (h2 : 1 ≤ S ∧ S ≤ 1000000000000) (h3 : ∀ u ∈ ws, 0 ≤ u ∧ u ≤ 1000000) (hx : 0 ≤ x ∧ x < ws.length) (hy : 0 ≤ y ∧ y < ws.length) :
    Calls Try.prog 56 #[.int .i64 x, .int .i64 y, .pointer (some ⟨tb, 0, none⟩), .pointer (some ⟨wb, 0, none⟩), .pointer (some ⟨sb, 0, none⟩)] w fun e w' => e = .returned (.int .i64 (cmpS t ws S x y)) ∧ ∃ n, w' = w.drewN n := by
  have hbound : ∀ u, 0 ≤ u ∧ u ≤ 1000000 → 0 ≤ t * u ∧ t * u ≤ 1000000000000000000 := fun u hu => ⟨Int.mul_nonneg h1.1 hu.1, by
    have := Int.mul_le_mul h1.2 hu.2 hu.1 (by omega)
    simpa using this⟩
  obtain ⟨i, rfl⟩ := Int.eq_ofNat_of_zero_le hx.1
  obtain ⟨j, rfl⟩ := Int.eq_ofNat_of_zero_le hy.1
  have hi : i < ws.length := by omega
  have hj : j < ws.length := by omega
  have hl := hv.len
  obtain ⟨a, c, rfl, HV⟩ := hv.form
  obtain ⟨b, o, rfl, hc⟩ := HV.out.cells (by omega)
  have ci := hc i hi
  have cj := hc j hj
  have bi := hbound _ (h3 _ (List.getElem_mem hi))
  have bj := hbound _ (h3 _ (List.getElem_mem hj))
  have hR : cmpS t ws S i j = cmpI ((t * ws[j]) % S) ((t * ws[i]) % S) := by unfold cmpS remS; rw [Int.toNat_natCast, Int.toNat_natCast, gI_get hi, gI_get hj]
  obtain ⟨u, hu⟩ : ∃ u, u = ws[i] := ⟨_, rfl⟩
  obtain ⟨v, hvv⟩ : ∃ v, v = ws[j] := ⟨_, rfl⟩
  rw [← hu] at ci bi hR
  rw [← hvv] at cj bj hR
  have HR := Lib.hid hR
  have i1 : (0:Int) ≤ (i:Int) := by omega
  have i2 : (i:Int) < (ws.length:Int) := by omega
  have j1 : (0:Int) ≤ (j:Int) := by omega
  have j2 : (j:Int) < (ws.length:Int) := by omega
  have hS : (S == 0) = false := by simp; omega
  have hS2 : S ≠ 0 := by omega
  have wi : IntKind.i64.wrap (t * u) = t * u := i64_eq _ ⟨by omega, by omega⟩
  have wj : IntKind.i64.wrap (t * v) = t * v := i64_eq _ ⟨by omega, by omega⟩
  have tm : ∀ p : Int, 0 ≤ p → 0 ≤ p.tmod S ∧ p.tmod S < S := fun p hp => ⟨Int.tmod_nonneg S hp, Int.tmod_lt_of_pos p (by omega)⟩
  have ti := tm _ bi.1
  have tj := tm _ bj.1
  obtain ⟨p, hp⟩ : ∃ p, p = t * u := ⟨_, rfl⟩
  obtain ⟨q, hq⟩ : ∃ q, q = t * v := ⟨_, rfl⟩
  clear hu hvv hR hc hv h3 hbound tm hx hy
  go_enter Try.func56, Try.ntmps56
  go_upto_region 1 with (fail)
  go_quiet ((go_at_call 57; exact Calls.quiet_of_same (compare_any _ _ _)))
  go_wp2
  go_ret
  exact ⟨ret_int (by rw [HR.out]), _, rfl⟩

set_option maxRecDepth 100000 in
set_option maxHeartbeats 2000000 in
theorem stableCmp_small (g : Nat) (caps : Array Value) (cmp : Int → Int → Int) (P : Int → Prop) (xs : List Int) (n : Nat) (w : World) (hb : Blk w g (iA xs) 3) (hn : xs.length = n) (hn2 : n < 20) (hn1 : 1 ≤ n)
    (hP : ∀ x ∈ xs, P x) (hc : CmpOk w g caps cmp P) :
    Calls Try.prog 91 #[.slice (some ⟨g, 0, none⟩) n n, .int .i64 n, .func (.func 56) #[] caps] w fun e w' => e = .returned (.tuple #[]) ∧ Blk w' g (iA (insN cmp 0 (n - 1) xs)) 3 ∧ Only (fun k => k = g) w w' := by
  have HI := Lib.hid (insertion_any g caps cmp P xs n 0 n w hb hn (by omega) (Nat.zero_le _) (Nat.le_refl _) hP hc)
  clear hb hP hc
  have h19 : (n:Int) < 20 := by omega
  go_enter Try.func91, Try.ntmps91
  go_wp2
  go_loopw [7, 8] (fun a b wr => a = .int .i64 0 ∧ b = .int .i64 20 ∧ wr = w) (fun _ _ _ => 0)
  case atStart => exact ⟨rfl, rfl, rfl⟩
  case round =>
    obtain ⟨rfl, rfl, rfl⟩ := hrel
    go_wp2_with (
      go_at_call 114
      refine HI.out.mono ?_
      rintro e w' ⟨rfl, h1, h2⟩
      have H1 := Lib.hid h1
      have H2 := Lib.hid h2
      clear h1 h2)
    go_loopw [6] (fun a wq => a = .int .i64 20 ∧ wq = w') (fun _ _ => 0)
    case atStart => exact ⟨rfl, rfl⟩
    case round =>
      obtain ⟨rfl, rfl⟩ := hrel
      go_wp2
      go_end0
      exact ⟨rfl, H1.out, H2.out⟩
/-- The library's stable sort of fewer than twenty. -/
theorem stable_small (g : Nat) (caps : Array Value) (cmp : Int → Int → Int) (P : Int → Prop) (xs : List Int) (n : Nat) (w : World) (hb : Blk w g (iA xs) 3) (hn : xs.length = n) (hn2 : n < 20) (hn1 : 1 ≤ n)
    (hP : ∀ x ∈ xs, P x) (hc : CmpOk w g caps cmp P) :
    Calls Try.prog 55 #[.slice (some ⟨g, 0, none⟩) n n, .func (.func 56) #[] caps] w fun e w' => e = .returned (.tuple #[]) ∧ Blk w' g (iA (insN cmp 0 (n - 1) xs)) 3 ∧ Only (fun k => k = g) w w' := by
  have HI := Lib.hid (stableCmp_small g caps cmp P xs n w hb hn hn2 hn1 hP hc)
  clear hb hP hc
  go_enter Try.func55, Try.ntmps55
  go_wp2_with (
    go_at_call 91
    refine HI.out.mono ?_
    rintro e w' ⟨rfl, h1, h2⟩
    have H1 := Lib.hid h1
    have H2 := Lib.hid h2
    clear h1 h2)
  go_end0
  exact ⟨rfl, H1.out, H2.out⟩

set_option maxHeartbeats 1000000 in
theorem indexI_any (xs : List Int) (va : Value) (fid : Nat) (p : Int → Bool) (w : World) (ha : Ints w va xs) (hid : ∀ (a : Array Value) (w : World), (callFunc fid a).run Try.prog w = .ok (.enter fid a) w)
    (hf : ∀ x w1, Calls Try.prog fid #[.int .i64 x] w1 fun e w2 => e = .returned (.bool (p x)) ∧ w2 = w1) :
    Calls Try.prog 90 #[va, .func (.func fid) #[] #[]] w fun e w' => e = .returned (.int .i64 (fIdx p xs 0)) ∧ ∃ n, w' = w.drewN n := by
  have hx := ha.len
  obtain ⟨a, c, rfl, Ha⟩ := ha.form
  clear ha
  have HF := Lib.hid hf
  clear hf
  go_enter Try.func90, Try.ntmps90
  go_wp2
  go_loopw [8] (fun t wr => ∃ k : Nat, k ≤ xs.length ∧ t = .int .i64 k ∧ Hid (fIdx p xs 0 = fIdx p (xs.drop k) k) ∧ ∃ n, wr = w.drewN n) (fun t _ => xs.length - (intOf t).toNat)
  case atStart => exact ⟨0, Nat.zero_le _, rfl, rfl, 0, rfl⟩
  case round =>
    obtain ⟨k, hk, rfl, HR, n, rfl⟩ := hrel
    by_cases hlt : k < xs.length
    · obtain ⟨b1, o1, rfl, hc1⟩ := Ha.out.cells (by omega)
      have c1 := hc1 k hlt
      clear hc1
      have i1 : (0:Int) ≤ (k:Int) := by omega
      have i2 : (k:Int) < (xs.length:Int) := by omega
      have HC := Lib.hid (HF.out xs[k])
      have hd := HR.out
      rw [fIdx_drop p xs k hlt] at hd
      generalize xs[k] = x at *
      by_cases hp : p x = true
      · rw [if_pos hp] at hd
        have HE := Lib.hid hd
        have HP := Lib.hid hp
        clear hd hp
        go_wp2_with (refine (HC.out _).mono ?_; rintro e w2 ⟨rfl, rfl⟩; rw [HP.out])
        go_ret
        exact ⟨ret_int (by rw [HE.out]), _, rfl⟩
      · have hp' : p x = false := by simpa using hp
        rw [if_neg hp] at hd
        have HE := Lib.hid hd
        have HP := Lib.hid hp'
        clear hp hd hp'
        go_wp2_with (refine (HC.out _).mono ?_; rintro e w2 ⟨rfl, rfl⟩; rw [HP.out])
        go_roundw
        case rel => exact ⟨k+1, by omega, by go_num, HE, _, rfl⟩
        case measure => simp [intOf]; omega
    · have hd := HR.out
      rw [fIdx_end p xs k (by omega)] at hd
      have HE := Lib.hid hd
      clear hd
      go_wp2_with fail
      go_ret
      exact ⟨ret_int (by rw [HE.out]), _, rfl⟩
theorem containsI_any (xs : List Int) (va : Value) (fid : Nat) (p : Int → Bool) (w : World) (ha : Ints w va xs) (hid : ∀ (a : Array Value) (w : World), (callFunc fid a).run Try.prog w = .ok (.enter fid a) w)
    (hf : ∀ x w1, Calls Try.prog fid #[.int .i64 x] w1 fun e w2 => e = .returned (.bool (p x)) ∧ w2 = w1) :
    Calls Try.prog 53 #[va, .func (.func fid) #[] #[]] w fun e w' => e = .returned (.bool (xs.any p)) ∧ ∃ n, w' = w.drewN n := by
  have HC := Lib.hid (indexI_any xs va fid p w ha hid hf)
  have HE := Lib.hid (fIdx_any p xs 0)
  clear ha hid hf
  go_enter Try.func53, Try.ntmps53
  go_wp2_with (refine HC.out.mono ?_; rintro e w2 ⟨rfl, n, rfl⟩)
  go_ret
  exact ⟨ret_bool (by rw [← HE.out]), _, rfl⟩
theorem badW_any (x : Int) (w : World) : Calls Try.prog 54 #[.int .i64 x] w fun e w' => e = .returned (.bool (!nIn x 0 1000000)) ∧ w' = w := by
  go_enter Try.func54, Try.ntmps54
  go_wp2_with (go_at_call 52; refine (in_any _ _ _ _).mono ?_; rintro e w' ⟨rfl, rfl⟩)
  go_ret
  exact ⟨rfl, rfl⟩
theorem badN_any (x : Int) (w : World) : Calls Try.prog 58 #[.int .i64 x] w fun e w' => e = .returned (.bool (!nIn x (-1000000000) 1000000000)) ∧ w' = w := by
  go_enter Try.func58, Try.ntmps58
  go_wp2_with (go_at_call 52; refine (in_any _ _ _ _).mono ?_; rintro e w' ⟨rfl, rfl⟩)
  go_ret
  exact ⟨rfl, rfl⟩
end Go.Proofs.Ytekplfbfkfiabaa

/- Shares in plain words. -/
namespace Go.Proofs.Ytekplfbfkfiabaa
open Go.RowKit
set_option linter.unusedVariables false
set_option linter.unusedSimpArgs false

def isum : List Int → Int
  | [] => 0
  | x :: xs => x + isum xs
theorem isum_snoc (xs : List Int) (x : Int) : isum (xs ++ [x]) = isum xs + x := by
  induction xs with
  | nil => simp [isum]
  | cons y ys ih => simp only [List.cons_append, isum, ih]; omega
theorem isum_take (xs : List Int) (k : Nat) (hk : k < xs.length) : isum (xs.take (k + 1)) = isum (xs.take k) + xs[k] := by
  rw [List.take_succ_eq_append_getElem hk, isum_snoc]
def inW (u : Int) : Bool := nIn u 0 1000000
def sumW (l : List Int) : Int := isum (l.map fun u => if inW u then u else 0)
theorem sumW_take (xs : List Int) (k : Nat) (hk : k < xs.length) : sumW (xs.take (k + 1)) = sumW (xs.take k) + if inW xs[k] then xs[k] else 0 := by
  unfold sumW
  rw [List.take_succ_eq_append_getElem hk, List.map_append, List.map_singleton, isum_snoc]
theorem sumW_range (xs : List Int) : 0 ≤ sumW xs ∧ sumW xs ≤ xs.length * 1000000 := by
  unfold sumW
  induction xs with
  | nil => simp [isum]
  | cons x xs ih =>
    simp only [List.map_cons, isum, List.length_cons]
    have h : 0 ≤ (if inW x then x else 0) ∧ (if inW x then x else 0) ≤ 1000000 := by
      split
      · rename_i h; exact (nIn_iff x 0 1000000).1 h
      · omega
    push_cast
    omega
theorem sumW_all (xs : List Int) (h : xs.any (fun u => !inW u) = false) : sumW xs = isum xs := by
  unfold sumW
  induction xs with
  | nil => rfl
  | cons x xs ih =>
    rw [List.any_cons, Bool.or_eq_false_iff] at h
    simp only [List.map_cons, isum]
    rw [ih h.2, if_pos (by simpa using h.1)]
def badW (xs : List Int) : Bool := xs.any fun u => !nIn u 0 1000000
def shareE (t : Int) (ws : List Int) : Int :=
  if ¬ (1 ≤ ws.length ∧ ws.length ≤ 100) then 2
  else if ¬ (0 ≤ t ∧ t ≤ 1000000000000) then 6
  else if badW ws = true then 6
  else if sumW ws = 0 then 4
  else 0
theorem shareE_ways (t : Int) (ws : List Int) :
    (¬ (1 ≤ ws.length ∧ ws.length ≤ 100) ∧ shareE t ws = 2) ∨ ((1 ≤ ws.length ∧ ws.length ≤ 100) ∧
    ((¬ (0 ≤ t ∧ t ≤ 1000000000000) ∧ shareE t ws = 6) ∨ ((0 ≤ t ∧ t ≤ 1000000000000) ∧
    ((badW ws = true ∧ shareE t ws = 6) ∨ (badW ws = false ∧
    ((sumW ws = 0 ∧ shareE t ws = 4) ∨ (sumW ws ≠ 0 ∧ shareE t ws = 0))))))) := by
  unfold shareE
  by_cases q1 : 1 ≤ ws.length ∧ ws.length ≤ 100
  · refine .inr ⟨q1, ?_⟩
    rw [if_neg (fun h => h q1)]
    by_cases q2 : 0 ≤ t ∧ t ≤ 1000000000000
    · refine .inr ⟨q2, ?_⟩
      rw [if_neg (fun h => h q2)]
      rcases q3 : badW ws with _ | _
      · refine .inr ⟨rfl, ?_⟩
        rw [if_neg (by decide)]
        by_cases q4 : sumW ws = 0
        · exact .inl ⟨q4, if_pos q4⟩
        · exact .inr ⟨q4, if_neg q4⟩
      · exact .inl ⟨rfl, if_pos rfl⟩
    · exact .inl ⟨q2, if_pos q2⟩
  · exact .inl ⟨q1, if_pos q1⟩
def baseS (t : Int) (ws : List Int) (S : Int) : List Int := ws.map fun u => t * u / S
theorem baseS_len (t : Int) (ws : List Int) (S : Int) : (baseS t ws S).length = ws.length := by simp [baseS]
def leftS (t : Int) (ws : List Int) (S : Int) : Int := t - isum (baseS t ws S)
theorem base_sum (t S : Int) (hS : 1 ≤ S) (ht : 0 ≤ t) : ∀ ws : List Int, isum (baseS t ws S) * S ≤ t * isum ws ∧ t * isum ws ≤ isum (baseS t ws S) * S + ws.length * (S - 1)
  | [] => by simp [baseS, isum]
  | u :: us => by
    obtain ⟨h1, h2⟩ := base_sum t S hS ht us
    have h3 : isum (baseS t (u :: us) S) = t * u / S + isum (baseS t us S) := rfl
    have h4 : isum (u :: us) = u + isum us := rfl
    have h5 := Int.emod_add_mul_ediv (t * u) S
    have h6 := Int.emod_nonneg (t * u) (show S ≠ 0 by omega)
    have h7 := Int.emod_lt_of_pos (t * u) (show 0 < S by omega)
    rw [h3, h4, Int.add_mul, Int.mul_add, List.length_cons]
    have h8 : t * u / S * S = S * (t * u / S) := Int.mul_comm _ _
    have h9 : ((us.length + 1 : Nat) : Int) * (S - 1) = us.length * (S - 1) + (S - 1) := by push_cast; rw [Int.add_mul, Int.one_mul]
    rw [h9]
    constructor <;> omega
theorem left_range (t : Int) (ws : List Int) (hS : 1 ≤ isum ws) (ht : 0 ≤ t) (hn : 1 ≤ ws.length) : 0 ≤ leftS t ws (isum ws) ∧ leftS t ws (isum ws) < ws.length := by
  obtain ⟨h1, h2⟩ := base_sum t (isum ws) hS ht ws
  unfold leftS
  constructor
  · have := Int.le_of_mul_le_mul_right h1 (by omega)
    omega
  · have h3 : t * isum ws < (isum (baseS t ws (isum ws)) + ws.length) * isum ws := by
      rw [Int.add_mul]
      have h4 : (ws.length : Int) * (isum ws - 1) = ws.length * isum ws - ws.length := by rw [Int.mul_sub, Int.mul_one]
      omega
    have := Int.lt_of_mul_lt_mul_right h3 (by omega)
    omega
def ixs (n : Nat) : List Int := (List.range n).map fun i : Nat => (i : Int)
theorem ixs_len (n : Nat) : (ixs n).length = n := by simp [ixs]
def bump (o : List Int) (i : Int) : List Int := o.set i.toNat (gI o i.toNat + 1)
def rankS (t : Int) (ws : List Int) (S : Int) : List Int := insN (cmpS t ws S) 0 (ws.length - 1) (ixs ws.length)
def outS (t : Int) (ws : List Int) (S : Int) : List Int := ((rankS t ws S).take (leftS t ws S).toNat).foldl bump (baseS t ws S)
def shareV (t : Int) (ws : List Int) : List Int := if shareE t ws = 0 then outS t ws (sumW ws) else []
theorem bump_len (o : List Int) (i : Int) : (bump o i).length = o.length := by simp [bump]
theorem bumps_len (l : List Int) : ∀ o : List Int, (l.foldl bump o).length = o.length := by
  induction l with
  | nil => intro o; rfl
  | cons x xs ih => intro o; rw [List.foldl_cons, ih, bump_len]
theorem insN_all {P : Int → Prop} (cmp : Int → Int → Int) (a : Nat) : ∀ (c : Nat) (xs : List Int), a + c < xs.length ∨ c = 0 → (∀ x ∈ xs, P x) → ∀ x ∈ insN cmp a c xs, P x
  | 0, _, _, h => h
  | c + 1, xs, hl, h => by
    unfold insN
    exact insJ_all cmp a _ _ (by rw [insN_len]; omega) (insN_all cmp a c xs (by omega) h)
theorem rank_range (t : Int) (ws : List Int) (S : Int) : ∀ i ∈ rankS t ws S, 0 ≤ i ∧ i < ws.length := by
  unfold rankS
  refine insN_all (P := fun i => 0 ≤ i ∧ i < ws.length) _ 0 _ _ (by rw [ixs_len]; omega) (fun x hx => ?_)
  unfold ixs at hx
  obtain ⟨i, hi, rfl⟩ := List.mem_map.1 hx
  rw [List.mem_range] at hi
  omega
theorem rankS_len (t : Int) (ws : List Int) (S : Int) : (rankS t ws S).length = ws.length := by unfold rankS; rw [insN_len, ixs_len]
theorem isum_nonneg (xs : List Int) (h : ∀ x ∈ xs, 0 ≤ x) : 0 ≤ isum xs := by
  induction xs with
  | nil => simp [isum]
  | cons x xs ih =>
    have h1 := h x (by simp)
    have h2 := ih (fun y hy => h y (by simp [hy]))
    simp only [isum]; omega
theorem isum_append (xs ys : List Int) : isum (xs ++ ys) = isum xs + isum ys := by
  induction xs with
  | nil => simp [isum]
  | cons x xs ih => simp only [List.cons_append, isum, ih]; omega
theorem isum_take_le (xs : List Int) (k : Nat) (h : ∀ x ∈ xs, 0 ≤ x) : isum (xs.take k) ≤ isum xs := by
  have h1 := isum_append (xs.take k) (xs.drop k)
  rw [List.take_append_drop] at h1
  have h2 := isum_nonneg (xs.drop k) (fun x hx => h x (List.mem_of_mem_drop hx))
  omega
theorem left_take (t S : Int) (ws : List Int) (k : Nat) (hS : S = isum ws) (h1 : 1 ≤ S) (ht : 0 ≤ t) (hw : ∀ u ∈ ws, 0 ≤ u) : 0 ≤ t - isum ((baseS t ws S).take k) ∧ t - isum ((baseS t ws S).take k) ≤ t := by
  have e : (baseS t ws S).take k = baseS t (ws.take k) S := by unfold baseS; rw [List.map_take]
  rw [e]
  obtain ⟨h2, _⟩ := base_sum t S h1 ht (ws.take k)
  have h3 := isum_take_le ws k hw
  have h4 : isum (baseS t (ws.take k) S) * S ≤ t * S := Int.le_trans h2 (by rw [hS]; exact Int.mul_le_mul_of_nonneg_left h3 ht)
  have h5 := Int.le_of_mul_le_mul_right h4 (by omega)
  have h6 : 0 ≤ isum (baseS t (ws.take k) S) := isum_nonneg _ fun x hx => by
    unfold baseS at hx
    obtain ⟨u, hu, rfl⟩ := List.mem_map.1 hx
    exact Int.ediv_nonneg (Int.mul_nonneg ht (hw u (List.mem_of_mem_take hu))) (by omega)
  constructor <;> omega
theorem badW_ok {ws : List Int} (h : badW ws = false) : ∀ u ∈ ws, 0 ≤ u ∧ u ≤ 1000000 := fun u hu => by
  unfold badW at h
  rw [List.any_eq_false] at h
  have h2 := h u hu
  rw [Bool.not_eq_true, Bool.not_eq_false'] at h2
  exact (nIn_iff _ _ _).1 h2
theorem Blk.ints {w : World} {g : Nat} {xs : List Int} {t : TypeId} {n c : Nat} (h : Blk w g (iA xs) t) (hn : xs.length = n) (hl : n ≤ 1000000) : Ints w (.slice (some ⟨g, 0, none⟩) n c) xs := by
  refine ⟨by rw [List.length_map]; omega, some ⟨g, 0, none⟩, c, by rw [List.length_map, hn], fun e => (by cases e), fun _ => ⟨g, 0, rfl, fun i v hv => ?_⟩⟩
  rw [Nat.zero_add, h.cell]
  simpa [iA, iV] using hv
theorem bump_all {M : Int} {o : List Int} {i : Int} (h : ∀ x ∈ o, 0 ≤ x ∧ x ≤ M) (hM : 0 ≤ M) : ∀ x ∈ bump o i, 0 ≤ x ∧ x ≤ M + 1 := by
  intro x hx
  unfold bump at hx
  rcases List.mem_or_eq_of_mem_set hx with hx | rfl
  · have := h x hx; omega
  · unfold gI
    rw [List.getD_eq_getElem?_getD]
    cases hg : o[i.toNat]? with
    | none => simp; omega
    | some y => have := h y (List.mem_of_getElem? hg); simp; omega
theorem foldl_take (l : List Int) (o : List Int) (k : Nat) (hk : k < l.length) : (l.take (k + 1)).foldl bump o = bump ((l.take k).foldl bump o) l[k] := by
  rw [List.take_succ_eq_append_getElem hk, List.foldl_append]; rfl
theorem base_all (t S : Int) (ws : List Int) (h1 : 1 ≤ S) (ht : 0 ≤ t ∧ t ≤ 1000000000000) (hw : ∀ u ∈ ws, 0 ≤ u ∧ u ≤ 1000000) : ∀ x ∈ baseS t ws S, 0 ≤ x ∧ x ≤ 1000000000000000000 := by
  intro x hx
  unfold baseS at hx
  obtain ⟨u, hu, rfl⟩ := List.mem_map.1 hx
  have h2 := hw u hu
  have h3 : 0 ≤ t * u := Int.mul_nonneg ht.1 h2.1
  have h4 : t * u ≤ 1000000000000 * 1000000 := Int.mul_le_mul ht.2 h2.2 h2.1 (by omega)
  have h5 := Int.ediv_le_self S h3
  exact ⟨Int.ediv_nonneg h3 (by omega), by omega⟩
def fillK (l : List Int) (k : Nat) : List Int := l.take k ++ List.replicate (l.length - k) 0
theorem fillK_len (l : List Int) (k : Nat) (hk : k ≤ l.length) : (fillK l k).length = l.length := by simp [fillK]; omega
theorem fillK_zero (l : List Int) : fillK l 0 = List.replicate l.length 0 := by simp [fillK]
theorem fillK_all (l : List Int) : fillK l l.length = l := by simp [fillK]
theorem fillK_set (l : List Int) (k : Nat) (hk : k < l.length) : (fillK l k).set k l[k] = fillK l (k + 1) := by
  unfold fillK
  rw [List.set_append_right _ _ (by rw [List.length_take]; exact Nat.min_le_left _ _), List.length_take, Nat.min_eq_left (Nat.le_of_lt hk), Nat.sub_self, List.take_succ_eq_append_getElem hk, List.append_assoc]
  congr 1
  have e : l.length - k = (l.length - (k + 1)) + 1 := by omega
  rw [e, List.replicate_succ]
  rfl
theorem gI_set (l : List Int) (k : Nat) (x : Int) (hk : k < l.length) : gI (l.set k x) k = x := by
  unfold gI; rw [List.getD_eq_getElem?_getD, List.getElem?_set_self hk]; rfl
section
variable {P : Program} {w : World} {ops : Array Oper} {o : Oper} {a : Act} {Q : Exit → Act → World → Prop} {K : Act → World → Prop} {E : Prop}
/-- make of numbers, in a region that draws. -/
theorem step_makeI (hT : SliceT P 22 3 (.int .i64 0) 1 8) (hgd : o.guard = none) {x y : Operand} (ho : o.op = .makeSlice 22 x y) {n : Nat}
    (hx : a.eval x = .int .i64 n) (hy : a.eval y = .int .i64 n) (hN : n ≤ 1000000) (hn : 1 ≤ n)
    (h : ∀ b w1, Blk w1 b (iA (List.replicate n 0)) 3 → Ext w w1 → w.heap.size ≤ b → K (a.put o.dst (.slice (some ⟨b, 0, none⟩) n n)) w1) :
    if Region.wanted o (yielded ops a.tmps) = true then Oper.wp P o a w K Q else E := by
  have hw : Region.wanted o (yielded ops a.tmps) = true := by simp [Region.wanted, hgd]
  rw [if_pos hw]
  obtain ⟨i, hi, hp⟩ := Option.map_eq_some_iff.1 hT.info
  simp only [Prod.mk.injEq] at hp
  obtain ⟨hz, hsz, hby⟩ := hp
  have hm : n ≤ maxLen := by unfold maxLen; omega
  obtain ⟨w', hrun, r1, r2⟩ := run_make_full (P := P) w w.heap.size 22 3 i (.int .i64 0) 1 hT.ht hi hz hsz .i64 .i64 n (by rw [hby]; omega) hm (Nat.le_refl _)
  unfold Oper.wp
  simp [execOp, ho, hx, hy, hrun, Result.andThen]
  refine h _ w' ?_ (Ext.only (only_grown (v := .slice none 0 0) r2) (fun b hb => by cases hb)) (Nat.le_refl _)
  rcases r1.2 with ⟨hv, e0⟩ | ⟨g, cap, cur, hv, hg, hh, h1, h2, h3, h4⟩
  · omega
  · injection hv with e1 e2 e3
    injection e1 with e1
    injection e1 with e4
    subst e4
    have hcur : cur = iA (List.replicate n 0) := by
      have hmc : (madeCells (Value.int IntKind.i64 0).cells (n * 1)).toList = iV (List.replicate n 0) := by
        have : (Value.int IntKind.i64 0).cells = #[Value.int IntKind.i64 0] := rfl
        rw [this, Nat.mul_one, made_repl]
        simp [iV]
      rw [hmc] at h4
      have hsz2 : cur.size = n := by omega
      rw [Nat.mul_one, List.take_of_length_le (by simp [hsz2])] at h4
      have : cur = cur.toList.toArray := by simp
      rw [this, h4]; rfl
    rw [hcur] at hh
    exact hh
end
end Go.Proofs.Ytekplfbfkfiabaa
