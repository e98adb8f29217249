/- The library's stable sort: swaps of ranges, turns. -/
import Derived.Test.YtekplfbfkfiabaaStbP
import Derived.Test.YtekplfbfkfiabaaBkShr0
namespace Go.Proofs.Ytekplfbfkfiabaa
open Go.RowKit
set_option linter.unusedVariables false
set_option linter.unusedSimpArgs false

set_option maxRecDepth 100000 in
set_option maxHeartbeats 4000000 in
theorem swapRange_any (g : Nat) (xs : List Int) (n a b k : Nat) (fv : Value) (w : World) (hb : Blk w g (iA xs) 3) (hn : xs.length = n) (hn2 : n ≤ 1000000) (ha : a + k ≤ n) (hbk : b + k ≤ n) :
    Calls Try.prog 134 #[.slice (some ⟨g, 0, none⟩) n n, .int .i64 a, .int .i64 b, .int .i64 k, fv] w fun e w' => e = .returned (.tuple #[]) ∧ Blk w' g (iA (swF k a b xs)) 3 ∧ Only (fun k => k = g) w w' := by
  obtain ⟨F, hF⟩ : ∃ F, F = swF k a b xs := ⟨_, rfl⟩
  rw [← hF]
  have HB := Lib.hid hb
  have HN := Lib.hid hn
  have HF := Lib.hid hF
  clear hb hn hF
  go_enter Try.func134, Try.ntmps134
  go_wp2
  go_loopw [10] (fun t wr => ∃ i : Nat, i ≤ k ∧ t = .int .i64 i ∧ ∃ zs, Hid (Blk wr g (iA zs) 3) ∧ Hid (zs.length = n) ∧ Hid (F = swF (k - i) (a + i) (b + i) zs) ∧ Hid (Only (fun k => k = g) w wr)) (fun t _ => k - (intOf t).toNat)
  case atStart => exact ⟨0, Nat.zero_le _, rfl, xs, HB.out, HN.out, HF.out, Only.refl _ _⟩
  case round =>
    clear HB HN HF
    obtain ⟨i, hi, rfl, zs, HB, HL, HE, HO⟩ := hrel
    by_cases hlt : i < k
    · obtain ⟨p, hp⟩ : ∃ p, p = a + i := ⟨_, rfl⟩
      obtain ⟨q, hq⟩ : ∃ q, q = b + i := ⟨_, rfl⟩
      have hl := HL.out
      have c1 := HB.out.int (show p < zs.length by omega)
      have c0 := HB.out.int (show q < zs.length by omega)
      obtain ⟨x, hx⟩ : ∃ x, x = gI zs p := ⟨_, rfl⟩
      obtain ⟨y, hy⟩ : ∃ y, y = gI zs q := ⟨_, rfl⟩
      rw [← hx] at c1
      rw [← hy] at c0
      have HSW : Hid (swap2 zs p q = (zs.set p y).set q x) := by show swap2 zs p q = _; rw [hx, hy]; rfl
      have HNX : Hid (F = swF (k - (i + 1)) (a + (i + 1)) (b + (i + 1)) (swap2 zs p q)) := by
        show F = _
        rw [HE.out, show k - i = (k - (i + 1)) + 1 by omega, hp, hq]
        rfl
      have HLP := Lib.hid (show p < (iA zs).size by rw [iA_size]; omega)
      have HLQ := Lib.hid (show q < (iA zs).size by rw [iA_size]; omega)
      have k1 : IntKind.i64.wrap ((a:Int) + (i:Int)) = (p:Int) := by rw [i64_eq _ ⟨by omega, by omega⟩]; omega
      have k2 : IntKind.i64.wrap ((b:Int) + (i:Int)) = (q:Int) := by rw [i64_eq _ ⟨by omega, by omega⟩]; omega
      have k3 : (0:Int) ≤ (p:Int) := by omega
      have k4 : (p : Int) < (n : Int) := by omega
      have k5 : (0:Int) ≤ (q:Int) := by omega
      have k6 : (q : Int) < (n : Int) := by omega
      clear hp hq hx hy hl
      go_upto_region 3 with (fail)
      have hxd : Ext wr wr.drew := (Below.refl _ wr).drew
      have hb3 := HB.out.ext hxd
      have ho3 := HO.out.tr (Only.of_ext hxd)
      replace c0 := hxd.cellSome c0
      replace c1 := hxd.cellSome c1
      refine wp_region_K (fun _ => True) 22 (by kernel_rfl) trivial (fun hHeld => ?_)
      clear HB HO hxd
      have HB3 := Lib.hid hb3
      have HO3 := Lib.hid ho3
      clear hb3 ho3
      generalize wr.drew = wA at *
      refine wpAnyK_takeL (i := 0) (v := ?_) rfl (by kernel_rfl) (by kernel_rfl) (by kernel_rfl) (by kernel_rfl) (fun _ _ _ h => h) (Or.inl ⟨by rfl, ?_⟩) hHeld ?_
      rotate_left
      · intro w hSw; (try dsimp only at hSw); go_simp; (try with_reducible rfl)
      try simp only [Act.put, List.setIfInBounds_toArray, List.set_cons_zero, List.set_cons_succ]
      refine wpAnyK_takeL (i := 1) (v := ?_) rfl (by kernel_rfl) (by kernel_rfl) (by kernel_rfl) (by kernel_rfl) (fun _ _ _ h => h) (Or.inl ⟨by rfl, ?_⟩) hHeld ?_
      rotate_left
      · intro w hSw; (try dsimp only at hSw); go_simp; (try with_reducible rfl)
      try simp only [Act.put, List.setIfInBounds_toArray, List.set_cons_zero, List.set_cons_succ]
      refine wpAnyK_takeL (i := 2) (v := ?_) rfl (by kernel_rfl) (by kernel_rfl) (by kernel_rfl) (by kernel_rfl) (fun _ _ _ h => h) (Or.inl ⟨by rfl, ?_⟩) hHeld ?_
      rotate_left
      · intro w hSw; (try dsimp only at hSw); go_simp; (try with_reducible rfl)
      try simp only [Act.put, List.setIfInBounds_toArray, List.set_cons_zero, List.set_cons_succ]
      refine wpAnyK_takeL (i := 3) (v := ?_) rfl (by kernel_rfl) (by kernel_rfl) (by kernel_rfl) (by kernel_rfl) (fun _ _ _ h => h) (Or.inl ⟨by rfl, ?_⟩) hHeld ?_
      rotate_left
      · intro w hSw; (try dsimp only at hSw); go_simp; (try with_reducible rfl)
      try simp only [Act.put, List.setIfInBounds_toArray, List.set_cons_zero, List.set_cons_succ]
      refine wpAnyK_takeL (i := 4) (v := ?_) rfl (by kernel_rfl) (by kernel_rfl) (by kernel_rfl) (by kernel_rfl) (fun _ _ _ h => h) (Or.inl ⟨by rfl, ?_⟩) hHeld ?_
      rotate_left
      · intro w hSw; (try dsimp only at hSw); go_simp; (try with_reducible rfl)
      try simp only [Act.put, List.setIfInBounds_toArray, List.set_cons_zero, List.set_cons_succ]
      refine wpAnyK_takeL (i := 5) (v := ?_) rfl (by kernel_rfl) (by kernel_rfl) (by kernel_rfl) (by kernel_rfl) (fun _ _ _ h => h) (Or.inl ⟨by rfl, ?_⟩) hHeld ?_
      rotate_left
      · intro w hSw; (try dsimp only at hSw); go_simp; (try with_reducible rfl)
      try simp only [Act.put, List.setIfInBounds_toArray, List.set_cons_zero, List.set_cons_succ]
      refine wpAnyK_takeL (i := 6) (v := ?_) rfl (by kernel_rfl) (by kernel_rfl) (by kernel_rfl) (by kernel_rfl) (fun _ _ _ h => h) (Or.inl ⟨by rfl, ?_⟩) hHeld ?_
      rotate_left
      · intro w hSw; (try dsimp only at hSw); go_simp; (try with_reducible rfl)
      try simp only [Act.put, List.setIfInBounds_toArray, List.set_cons_zero, List.set_cons_succ]
      refine wpAnyK_takeL (i := 7) (v := ?_) rfl (by kernel_rfl) (by kernel_rfl) (by kernel_rfl) (by kernel_rfl) (fun _ _ _ h => h) (Or.inl ⟨by rfl, ?_⟩) hHeld ?_
      rotate_left
      · intro w hSw; (try dsimp only at hSw); go_simp; (try with_reducible rfl)
      try simp only [Act.put, List.setIfInBounds_toArray, List.set_cons_zero, List.set_cons_succ]
      refine wpAnyK_takeL (i := 8) (v := ?_) rfl (by kernel_rfl) (by kernel_rfl) (by kernel_rfl) (by kernel_rfl) (fun _ _ _ h => h) (Or.inl ⟨by rfl, ?_⟩) hHeld ?_
      rotate_left
      · intro w hSw; (try dsimp only at hSw); go_simp; (try with_reducible rfl)
      try simp only [Act.put, List.setIfInBounds_toArray, List.set_cons_zero, List.set_cons_succ]
      refine wpAnyK_takeL (i := 9) (v := ?_) rfl (by kernel_rfl) (by kernel_rfl) (by kernel_rfl) (by kernel_rfl) (fun _ _ _ h => h) (Or.inl ⟨by rfl, ?_⟩) hHeld ?_
      rotate_left
      · intro w hSw; (try dsimp only at hSw); go_simp; (try with_reducible rfl)
      try simp only [Act.put, List.setIfInBounds_toArray, List.set_cons_zero, List.set_cons_succ]
      refine wpAnyK_takeL (i := 10) (v := ?_) rfl (by kernel_rfl) (by kernel_rfl) (by kernel_rfl) (by kernel_rfl) (fun _ _ _ h => h) (Or.inl ⟨by rfl, ?_⟩) hHeld ?_
      rotate_left
      · intro w hSw; (try dsimp only at hSw); go_simp; (try with_reducible rfl)
      try simp only [Act.put, List.setIfInBounds_toArray, List.set_cons_zero, List.set_cons_succ]
      refine wpAnyK_takeL (i := 11) (v := ?_) rfl (by kernel_rfl) (by kernel_rfl) (by kernel_rfl) (by kernel_rfl) (fun _ _ _ h => h) (Or.inl ⟨by rfl, ?_⟩) hHeld ?_
      rotate_left
      · intro w hSw; (try dsimp only at hSw); go_simp; (try with_reducible rfl)
      try simp only [Act.put, List.setIfInBounds_toArray, List.set_cons_zero, List.set_cons_succ]
      refine wpAnyK_takeL (i := 12) (v := ?_) rfl (by kernel_rfl) (by kernel_rfl) (by kernel_rfl) (by kernel_rfl) (fun _ _ _ h => h) (Or.inl ⟨by rfl, ?_⟩) hHeld ?_
      rotate_left
      · intro w hSw; (try dsimp only at hSw); go_simp; (try with_reducible rfl)
      try simp only [Act.put, List.setIfInBounds_toArray, List.set_cons_zero, List.set_cons_succ]
      refine wpAnyK_takeL (i := 14) (v := ?_) rfl (by kernel_rfl) (by kernel_rfl) (by kernel_rfl) (by kernel_rfl) (fun _ _ _ h => h) (Or.inl ⟨by rfl, ?_⟩) hHeld ?_
      rotate_left
      · intro w hSw; (try dsimp only at hSw); go_simp; (try with_reducible rfl)
      try simp only [Act.put, List.setIfInBounds_toArray, List.set_cons_zero, List.set_cons_succ]
      refine wpAnyK_takeL (i := 15) (v := ?_) rfl (by kernel_rfl) (by kernel_rfl) (by kernel_rfl) (by kernel_rfl) (fun _ _ _ h => h) (Or.inl ⟨by rfl, ?_⟩) hHeld ?_
      rotate_left
      · intro w hSw; (try dsimp only at hSw); go_simp; (try with_reducible rfl)
      try simp only [Act.put, List.setIfInBounds_toArray, List.set_cons_zero, List.set_cons_succ]
      refine wpAnyK_takeL (i := 16) (v := ?_) rfl (by kernel_rfl) (by kernel_rfl) (by kernel_rfl) (by kernel_rfl) (fun _ _ _ h => h) (Or.inl ⟨by rfl, ?_⟩) hHeld ?_
      rotate_left
      · intro w hSw; (try dsimp only at hSw); go_simp; (try with_reducible rfl)
      try simp only [Act.put, List.setIfInBounds_toArray, List.set_cons_zero, List.set_cons_succ]
      refine wpAnyK_takeL (i := 17) (v := ?_) rfl (by kernel_rfl) (by kernel_rfl) (by kernel_rfl) (by kernel_rfl) (fun _ _ _ h => h) (Or.inl ⟨by rfl, ?_⟩) hHeld ?_
      rotate_left
      · intro w hSw; (try dsimp only at hSw); go_simp; (try with_reducible rfl)
      try simp only [Act.put, List.setIfInBounds_toArray, List.set_cons_zero, List.set_cons_succ]
      refine wpAnyK_takeL (i := 18) (v := ?_) rfl (by kernel_rfl) (by kernel_rfl) (by kernel_rfl) (by kernel_rfl) (fun _ _ _ h => h) (Or.inl ⟨by rfl, ?_⟩) hHeld ?_
      rotate_left
      · intro w hSw; (try dsimp only at hSw); go_simp; (try with_reducible rfl)
      try simp only [Act.put, List.setIfInBounds_toArray, List.set_cons_zero, List.set_cons_succ]
      refine wpAnyK_ready (rs := [13, 19]) (by kernel_rfl) (by simp) ?_
      refine AllReadyK.consL (i := 13) rfl (fun K hK => ?_) ?_
      · go_simp
        refine hK.out _ _ (fun _ => trivial) (fun hHeld2 => ?_)
        clear hK K
        try clear hHeld
        have hHeld := hHeld2 (by decide)
        clear hHeld2
        try simp only [Act.put, List.setIfInBounds_toArray, List.set_cons_zero, List.set_cons_succ]
        refine wpAnyK_ready (rs := [19]) (by kernel_rfl) (by simp) ?_
        refine AllReadyK.consL (i := 19) rfl (fun K hK => ?_) ?_
        · go_simp
          refine hK.out _ _ (fun _ => trivial) (fun hHeld2 => ?_)
          clear hK K
          try clear hHeld
          have hHeld := hHeld2 (by decide)
          clear hHeld2
          try simp only [Act.put, List.setIfInBounds_toArray, List.set_cons_zero, List.set_cons_succ]
          refine wpAnyK_takeL (i := 20) (v := ?_) rfl (by kernel_rfl) (by kernel_rfl) (by kernel_rfl) (by kernel_rfl) (fun _ _ _ h => h) (Or.inl ⟨by rfl, ?_⟩) hHeld ?_
          rotate_left
          · intro w hSw; (try dsimp only at hSw); go_simp; (try with_reducible rfl)
          try simp only [Act.put, List.setIfInBounds_toArray, List.set_cons_zero, List.set_cons_succ]
          refine wpAnyK_ready (rs := [21]) (by kernel_rfl) (by simp) ?_
          refine AllReadyK.consL (i := 21) rfl (fun K hK => ?_) ?_
          · refine step_setK (i := p) (v := .int .i64 y) rfl rfl HB3.out rfl rfl HLP.out (by kernel_rfl) rfl (by simp [Value.oneCell']) ?_
            intro wB hw1 hb1 ho1
            rw [iA_set] at hb1
            clear hw1
            refine hK.out _ _ (fun _ => trivial) (fun hHeld2 => ?_)
            clear hK K
            try clear hHeld
            have hHeld := hHeld2 (by decide)
            clear hHeld2
            try simp only [Act.put, List.setIfInBounds_toArray, List.set_cons_zero, List.set_cons_succ]
            refine wpAnyK_ready (rs := [22]) (by kernel_rfl) (by simp) ?_
            refine AllReadyK.consL (i := 22) rfl (fun K hK => ?_) ?_
            · go_simp
              refine hK.out _ _ (fun h => absurd h (by decide)) (fun hHeld2 => ?_)
              clear hK K hHeld2
              try clear hHeld
              try simp only [Act.put, List.setIfInBounds_toArray, List.set_cons_zero, List.set_cons_succ]
              refine wpAnyK_ready (rs := [23]) (by kernel_rfl) (by simp) ?_
              refine AllReadyK.consL (i := 23) rfl (fun K hK => ?_) ?_
              · refine step_setK (i := q) (v := .int .i64 x) rfl rfl hb1 rfl rfl (by have := HLQ.out; rw [iA_size] at this ⊢; rw [List.length_set]; omega) (by kernel_rfl) rfl (by simp [Value.oneCell']) ?_
                intro wC hw2 hb2 ho2
                rw [iA_set, ← HSW.out] at hb2
                refine hK.out _ _ (fun h => absurd h (by decide)) (fun hHeld2 => ?_)
                clear hK K hHeld2
                try clear hHeld
                try simp only [Act.put, List.setIfInBounds_toArray, List.set_cons_zero, List.set_cons_succ]
                refine wpAnyK_done (by kernel_rfl) ?_ _
                have HO4 := Lib.hid ((HO3.out.tr ho1).tr ho2)
                have HB4 := Lib.hid hb2
                clear HO3 HB3 hb1 hb2 ho1 ho2 hw2 c0 c1
                go_wp2
                go_roundw
                case rel => exact ⟨i + 1, by omega, by go_num, _, HB4, Lib.hid (by rw [swap2_len]; exact HL.out), HNX, HO4⟩
                case measure => simp [intOf]; omega
              · exact AllReadyK.nil
            · exact AllReadyK.nil
          · exact AllReadyK.nil
        · exact AllReadyK.nil
      · refine AllReadyK.consL (i := 19) rfl (fun K hK => ?_) ?_
        · go_simp
          refine hK.out _ _ (fun _ => trivial) (fun hHeld2 => ?_)
          clear hK K
          try clear hHeld
          have hHeld := hHeld2 (by decide)
          clear hHeld2
          try simp only [Act.put, List.setIfInBounds_toArray, List.set_cons_zero, List.set_cons_succ]
          refine wpAnyK_ready (rs := [13]) (by kernel_rfl) (by simp) ?_
          refine AllReadyK.consL (i := 13) rfl (fun K hK => ?_) ?_
          · go_simp
            refine hK.out _ _ (fun _ => trivial) (fun hHeld2 => ?_)
            clear hK K
            try clear hHeld
            have hHeld := hHeld2 (by decide)
            clear hHeld2
            try simp only [Act.put, List.setIfInBounds_toArray, List.set_cons_zero, List.set_cons_succ]
            refine wpAnyK_takeL (i := 20) (v := ?_) rfl (by kernel_rfl) (by kernel_rfl) (by kernel_rfl) (by kernel_rfl) (fun _ _ _ h => h) (Or.inl ⟨by rfl, ?_⟩) hHeld ?_
            rotate_left
            · intro w hSw; (try dsimp only at hSw); go_simp; (try with_reducible rfl)
            try simp only [Act.put, List.setIfInBounds_toArray, List.set_cons_zero, List.set_cons_succ]
            refine wpAnyK_ready (rs := [21]) (by kernel_rfl) (by simp) ?_
            refine AllReadyK.consL (i := 21) rfl (fun K hK => ?_) ?_
            · refine step_setK (i := p) (v := .int .i64 y) rfl rfl HB3.out rfl rfl HLP.out (by kernel_rfl) rfl (by simp [Value.oneCell']) ?_
              intro wB hw1 hb1 ho1
              rw [iA_set] at hb1
              clear hw1
              refine hK.out _ _ (fun _ => trivial) (fun hHeld2 => ?_)
              clear hK K
              try clear hHeld
              have hHeld := hHeld2 (by decide)
              clear hHeld2
              try simp only [Act.put, List.setIfInBounds_toArray, List.set_cons_zero, List.set_cons_succ]
              refine wpAnyK_ready (rs := [22]) (by kernel_rfl) (by simp) ?_
              refine AllReadyK.consL (i := 22) rfl (fun K hK => ?_) ?_
              · go_simp
                refine hK.out _ _ (fun h => absurd h (by decide)) (fun hHeld2 => ?_)
                clear hK K hHeld2
                try clear hHeld
                try simp only [Act.put, List.setIfInBounds_toArray, List.set_cons_zero, List.set_cons_succ]
                refine wpAnyK_ready (rs := [23]) (by kernel_rfl) (by simp) ?_
                refine AllReadyK.consL (i := 23) rfl (fun K hK => ?_) ?_
                · refine step_setK (i := q) (v := .int .i64 x) rfl rfl hb1 rfl rfl (by have := HLQ.out; rw [iA_size] at this ⊢; rw [List.length_set]; omega) (by kernel_rfl) rfl (by simp [Value.oneCell']) ?_
                  intro wC hw2 hb2 ho2
                  rw [iA_set, ← HSW.out] at hb2
                  refine hK.out _ _ (fun h => absurd h (by decide)) (fun hHeld2 => ?_)
                  clear hK K hHeld2
                  try clear hHeld
                  try simp only [Act.put, List.setIfInBounds_toArray, List.set_cons_zero, List.set_cons_succ]
                  refine wpAnyK_done (by kernel_rfl) ?_ _
                  have HO4 := Lib.hid ((HO3.out.tr ho1).tr ho2)
                  have HB4 := Lib.hid hb2
                  clear HO3 HB3 hb1 hb2 ho1 ho2 hw2 c0 c1
                  go_wp2
                  go_roundw
                  case rel => exact ⟨i + 1, by omega, by go_num, _, HB4, Lib.hid (by rw [swap2_len]; exact HL.out), HNX, HO4⟩
                  case measure => simp [intOf]; omega
                · exact AllReadyK.nil
              · exact AllReadyK.nil
            · exact AllReadyK.nil
          · exact AllReadyK.nil
        · exact AllReadyK.nil
    · obtain rfl : i = k := by omega
      have hf : F = zs := by rw [HE.out, Nat.sub_self]; rfl
      have HFZ := Lib.hid hf
      clear hf
      go_wp2
      go_end0
      exact ⟨rfl, by rw [HFZ.out]; exact HB.out, HO.out⟩

set_option maxRecDepth 100000 in
set_option maxHeartbeats 4000000 in
theorem turn_any (g : Nat) (P X Y R : List Int) (n a m b : Nat) (fv : Value) (w : World) (hb : Blk w g (iA (P ++ (X ++ (Y ++ R)))) 3) (hn : (P ++ (X ++ (Y ++ R))).length = n) (hn2 : n ≤ 1000000) (ha : a = P.length) (hm : m = a + X.length) (hbb : b = m + Y.length) (hX : 0 < X.length) (hY : 0 < Y.length) :
    Calls Try.prog 120 #[.slice (some ⟨g, 0, none⟩) n n, .int .i64 a, .int .i64 m, .int .i64 b, fv] w fun e w' => e = .returned (.tuple #[]) ∧ Blk w' g (iA (P ++ (Y ++ (X ++ R)))) 3 ∧ Only (fun k => k = g) w w' := by
  obtain ⟨F, hF⟩ : ∃ F, F = P ++ (Y ++ (X ++ R)) := ⟨_, rfl⟩
  rw [← hF]
  have hmn : b ≤ n := by rw [hbb, hm, ha, ← hn]; simp only [List.length_append]; omega
  have t1 : IntKind.i64.wrap ((m:Int) - (a:Int)) = (X.length : Int) := by rw [i64_eq _ ⟨by omega, by omega⟩]; omega
  have t2 : IntKind.i64.wrap ((b:Int) - (m:Int)) = (Y.length : Int) := by rw [i64_eq _ ⟨by omega, by omega⟩]; omega
  have hm2 : m = P.length + X.length := by omega
  have HB := Lib.hid hb
  have HN := Lib.hid hn
  have HF := Lib.hid hF
  have HM2 := Lib.hid hm2
  have HX := Lib.hid hX
  have HY := Lib.hid hY
  clear hb hn hF hm2 hX hY
  clear ha hm hbb
  go_enter Try.func120, Try.ntmps120
  go_wp2
  go_loopw [10, 11] (fun s t wr => ∃ (P' X' Y' R' : List Int), s = .int .i64 X'.length ∧ t = .int .i64 Y'.length ∧ 0 < X'.length ∧ 0 < Y'.length ∧ m = P'.length + X'.length ∧ Hid (Blk wr g (iA (P' ++ (X' ++ (Y' ++ R')))) 3) ∧ Hid ((P' ++ (X' ++ (Y' ++ R'))).length = n) ∧ Hid (F = P' ++ (Y' ++ (X' ++ R'))) ∧ Hid (Only (fun k => k = g) w wr)) (fun s t _ => (intOf s).toNat + (intOf t).toNat)
  case atStart => exact ⟨P, X, Y, R, rfl, rfl, HX.out, HY.out, HM2.out, HB.out, HN.out, HF.out, Only.refl _ _⟩
  case round =>
    clear HB HN HF HM2 HX HY
    obtain ⟨P', X', Y', R', rfl, rfl, hX, hY, hm2, HB, HN, HF, HO⟩ := hrel
    have hn3 := HN.out
    simp only [List.length_append] at hn3
    obtain ⟨i, hi⟩ : ∃ i, i = X'.length := ⟨_, rfl⟩
    obtain ⟨j, hj⟩ : ∃ j, j = Y'.length := ⟨_, rfl⟩
    rw [← hi] at hX hm2 hn3 ⊢
    rw [← hj] at hY hn3 ⊢
    obtain ⟨p, hp⟩ : ∃ p, p = P'.length := ⟨_, rfl⟩
    rw [← hp] at hm2 hn3
    have k1 : IntKind.i64.wrap ((m:Int) - (i:Int)) = (p:Int) := by rw [i64_eq _ ⟨by omega, by omega⟩]; omega
    have HI := Lib.hid hi
    have HJ := Lib.hid hj
    have HP := Lib.hid hp
    rcases Nat.lt_trichotomy i j with hij | hij | hij
    · have q1 : ((i:Int) != (j:Int)) = true := by simp; omega
      have q2 : decide ((j:Int) < (i:Int)) = false := decide_eq_false (by omega)
      obtain ⟨d, hd0⟩ : ∃ d, d = j - i := ⟨_, rfl⟩
      obtain ⟨q, hq⟩ : ∃ q, q = m + d := ⟨_, rfl⟩
      obtain ⟨c, hce⟩ : ∃ c, c = m + j := ⟨_, rfl⟩
      have q3a : IntKind.i64.wrap ((m:Int) + (j:Int)) = (c : Int) := by rw [i64_eq _ ⟨by omega, by omega⟩]; omega
      have q3 : IntKind.i64.wrap ((c:Int) - (i:Int)) = (q : Int) := by rw [i64_eq _ ⟨by omega, by omega⟩]; omega
      have q4 : IntKind.i64.wrap ((j:Int) - (i:Int)) = (d : Int) := by rw [i64_eq _ ⟨by omega, by omega⟩]; omega
      have hsr := fun W (h : Blk W g (iA (P' ++ (X' ++ (Y' ++ R')))) 3) => swapRange_any g (P' ++ (X' ++ (Y' ++ R'))) n p (q) i fv W h HN.out hn2 (by omega) (by omega)
      have hsw : swF i p (q) (P' ++ (X' ++ (Y' ++ R'))) = P' ++ (Y'.drop d ++ (Y'.take d ++ (X' ++ R'))) := by
        have hd : (Y'.drop d).length = i := by rw [List.length_drop, ← HJ.out]; omega
        have ht : (Y'.take d).length = d := by rw [List.length_take, ← HJ.out]; omega
        have h := swF_app X' (Y'.drop d) P' (Y'.take d) R' (by rw [hd, HI.out])
        rw [← List.append_assoc (Y'.take d), List.take_append_drop, ht, ← HI.out, ← HP.out, show p + i + d = q by omega] at h
        exact h
      rw [hsw] at hsr
      have HF2 : Hid (F = P' ++ (Y'.take d ++ (Y'.drop d ++ (X' ++ R')))) := by
        show F = _
        rw [HF.out, ← List.append_assoc (Y'.take d), List.take_append_drop]
      have HD : Hid ((Y'.drop d).length = i) := by show _ = _; rw [List.length_drop, ← HJ.out]; omega
      have HT : Hid ((Y'.take d).length = d) := by show _ = _; rw [List.length_take, ← HJ.out]; omega
      have HN2 : Hid ((P' ++ (Y'.drop d ++ (Y'.take d ++ (X' ++ R')))).length = n) := by
        show _ = _
        rw [← HN.out]
        simp only [List.length_append, HD.out, HT.out, ← HI.out, ← HJ.out]
        omega
      have HSR := Lib.hid hsr
      clear hsr
      have HM := Lib.hid hm2
      have HDD := Lib.hid hd0
      clear hsw hi hj hp hm2 hn3 hd0 hq hce
      go_wp2_with (
        go_at_call 134
        refine (HSR.out _ HB.out).mono ?_
        rintro e w1 ⟨rfl, hb1, ho1⟩
        have ho2 := HO.out.tr ho1
        clear HB HO ho1
        have HB := Lib.hid hb1
        have HO := Lib.hid ho2
        clear hb1 ho2)
      go_roundw
      case rel => exact ⟨P', Y'.drop d, Y'.take d, X' ++ R', by rw [HD.out], by rw [HT.out], by rw [HD.out]; omega, by rw [HT.out]; have := HDD.out; omega, by rw [HD.out, ← HP.out]; have := HM.out; omega, HB, HN2, HF2, HO⟩
      case measure => have := HDD.out; simp [intOf]; omega
    · subst hij
      have q1 : ((i:Int) != (i:Int)) = false := by simp
      have hsr := fun W (h : Blk W g (iA (P' ++ (X' ++ (Y' ++ R')))) 3) => swapRange_any g (P' ++ (X' ++ (Y' ++ R'))) n p m i fv W h HN.out hn2 (by omega) (by omega)
      have hsw : swF i p m (P' ++ (X' ++ (Y' ++ R'))) = F := by
        have h := swF_app X' Y' P' [] R' (by rw [← HI.out, ← HJ.out])
        rw [← HI.out, ← HP.out, show p + i + ([] : List Int).length = m by simp; omega] at h
        rw [HF.out]
        exact h
      rw [hsw] at hsr
      have HSR := Lib.hid hsr
      clear hsr
      have HM := Lib.hid hm2
      clear hsw hi hj hp hm2 hn3
      go_wp2_with (
        go_at_call 134
        refine (HSR.out _ HB.out).mono ?_
        rintro e w1 ⟨rfl, hb1, ho1⟩
        have ho2 := HO.out.tr ho1
        clear HB HO ho1
        have HB := Lib.hid hb1
        have HO := Lib.hid ho2
        clear hb1 ho2)
      go_end0
      exact ⟨rfl, HB.out, HO.out⟩
    · have q1 : ((i:Int) != (j:Int)) = true := by simp; omega
      have q2 : decide ((j:Int) < (i:Int)) = true := decide_eq_true (by omega)
      obtain ⟨d, hd0⟩ : ∃ d, d = i - j := ⟨_, rfl⟩
      have q4 : IntKind.i64.wrap ((i:Int) - (j:Int)) = (d : Int) := by rw [i64_eq _ ⟨by omega, by omega⟩]; omega
      have hsr := fun W (h : Blk W g (iA (P' ++ (X' ++ (Y' ++ R')))) 3) => swapRange_any g (P' ++ (X' ++ (Y' ++ R'))) n p m j fv W h HN.out hn2 (by omega) (by omega)
      have HD : Hid ((X'.drop j).length = d) := by show _ = _; rw [List.length_drop, ← HI.out, hd0]
      have HT : Hid ((X'.take j).length = j) := by show _ = _; rw [List.length_take, ← HI.out]; omega
      have hsw : swF j p m (P' ++ (X' ++ (Y' ++ R'))) = (P' ++ Y') ++ (X'.drop j ++ (X'.take j ++ R')) := by
        have h := swF_app (X'.take j) Y' P' (X'.drop j) R' (by rw [HT.out, HJ.out])
        rw [← List.append_assoc (X'.take j), List.take_append_drop, HT.out, HD.out, ← HP.out, show p + j + d = m by omega] at h
        rw [h, List.append_assoc]
      rw [hsw] at hsr
      have HF2 : Hid (F = (P' ++ Y') ++ (X'.take j ++ (X'.drop j ++ R'))) := by
        show F = _
        rw [HF.out, ← List.append_assoc (X'.take j), List.take_append_drop, List.append_assoc]
      have HN2 : Hid (((P' ++ Y') ++ (X'.drop j ++ (X'.take j ++ R'))).length = n) := by
        show _ = _
        rw [← HN.out]
        simp only [List.length_append, HD.out, HT.out, ← HI.out, ← HJ.out]
        omega
      have HSR := Lib.hid hsr
      clear hsr
      have HM := Lib.hid hm2
      have HDD := Lib.hid hd0
      clear hsw hi hj hp hm2 hn3 hd0
      go_wp2_with (
        go_at_call 134
        refine (HSR.out _ HB.out).mono ?_
        rintro e w1 ⟨rfl, hb1, ho1⟩
        have ho2 := HO.out.tr ho1
        clear HB HO ho1
        have HB := Lib.hid hb1
        have HO := Lib.hid ho2
        clear hb1 ho2)
      go_roundw
      case rel => exact ⟨P' ++ Y', X'.drop j, X'.take j, R', by rw [HD.out], by rw [HT.out], by rw [HD.out]; have := HDD.out; omega, by rw [HT.out]; omega, by rw [HD.out, List.length_append, ← HP.out, ← HJ.out]; have := HM.out; have := HDD.out; omega, HB, HN2, HF2, HO⟩
      case measure => have := HDD.out; simp [intOf]; omega
end Go.Proofs.Ytekplfbfkfiabaa
