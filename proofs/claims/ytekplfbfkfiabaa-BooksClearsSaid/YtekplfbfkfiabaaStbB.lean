/- The library's stable sort: two parts are merged. Printed by mkstb.py. -/
import Derived.Test.YtekplfbfkfiabaaStbA
namespace Go.Proofs.Ytekplfbfkfiabaa
open Go.RowKit
set_option linter.unusedVariables false
set_option linter.unusedSimpArgs false

theorem CmpOk.only {w w' : World} {g : Nat} {caps : Array Value} {cmp : Int → Int → Int} {P : Int → Prop} (h : CmpOk w g caps cmp P) (k : Only (fun k => k = g) w w') : CmpOk w' g caps cmp P :=
  fun w1 h1 x y hx hy => h w1 (k.tr h1) x y hx hy
/-- What merging two parts leaves. -/
def MgPost (w : World) (g : Nat) (lt : Int → Int → Prop) (pre L R post : List Int) (e : Ending) (w' : World) : Prop :=
  e = .returned (.tuple #[]) ∧ (∃ M, Mgd lt L R M ∧ Blk w' g (iA (pre ++ (M ++ post))) 3) ∧ Only (fun k => k = g) w w'

set_option maxRecDepth 100000 in
set_option maxHeartbeats 4000000 in
theorem symMerge_any (g : Nat) (caps : Array Value) (cmp : Int → Int → Int) (P : Int → Prop) (lt : Int → Int → Prop) (o : STO lt) (n : Nat) (hn2 : n ≤ 1000) : ∀ (k : Nat) (pre L R post : List Int) (a m b : Nat) (w : World), L.length + R.length ≤ k → (pre ++ (L ++ (R ++ post))).length = n →
    a = pre.length → m = a + L.length → b = m + R.length → 0 < L.length → 0 < R.length → SymIn cmp lt L R → (∀ x ∈ L ++ R, P x) → Blk w g (iA (pre ++ (L ++ (R ++ post)))) 3 → CmpOk w g caps cmp P →
    Calls Try.prog 115 #[.slice (some ⟨g, 0, none⟩) n n, .int .i64 a, .int .i64 m, .int .i64 b, .func (.func 56) #[] caps] w (MgPost w g lt pre L R post) := by
  intro k
  induction k with
  | zero => intro pre L R post a m b w h1 _ _ _ _ h2 _ _ _ _ _; omega
  | succ k ih =>
    intro pre L R post a m b w hk hn ha hm hbb hL hR hsy hPP hb hc
    have hp : ∀ e w', MgPost w g lt pre L R post e w' → MgPost w g lt pre L R post e w' := fun _ _ h => h
    obtain ⟨zs0, hz0⟩ : ∃ zs0, zs0 = pre ++ (L ++ (R ++ post)) := ⟨_, rfl⟩
    rw [← hz0] at hb hn
    have hcL : ∀ W, Blk W g (iA zs0) 3 → ∀ c : Nat, a ≤ c → c < m → W.cell? ⟨g, c, none⟩ = some (.int .i64 (gI L (c - a))) := fun W hW c h1 h2 => by
      have hl : zs0.length = pre.length + (L.length + (R.length + post.length)) := by rw [hz0]; simp
      rw [hW.int (by omega), hz0, gI_right (by omega), gI_left (by omega), ha]
    have hcR : ∀ W, Blk W g (iA zs0) 3 → ∀ c : Nat, m ≤ c → c < b → W.cell? ⟨g, c, none⟩ = some (.int .i64 (gI R (c - m))) := fun W hW c h1 h2 => by
      have hl : zs0.length = pre.length + (L.length + (R.length + post.length)) := by rw [hz0]; simp
      rw [hW.int (by omega), hz0, gI_right (by omega), gI_right (by omega), gI_left (by omega), show c - pre.length - L.length = c - m by omega]
    have hPL : ∀ c : Nat, a ≤ c → c < m → P (gI L (c - a)) := fun c h1 h2 => hPP _ (by rw [gI_get (by omega)]; exact List.mem_append_left _ (List.getElem_mem _))
    have hPR : ∀ c : Nat, m ≤ c → c < b → P (gI R (c - m)) := fun c h1 h2 => hPP _ (by rw [gI_get (by omega)]; exact List.mem_append_right _ (List.getElem_mem _))
    have hbn : b ≤ n := by rw [← hn, hz0]; simp only [List.length_append]; omega
    have hna : a < m := by omega
    have hmb : m < b := by omega
    obtain ⟨lL, hlL⟩ : ∃ lL, lL = L.length := ⟨_, rfl⟩
    obtain ⟨lR, hlR⟩ : ∃ lR, lR = R.length := ⟨_, rfl⟩
    have k0 : IntKind.i64.wrap ((m:Int) - (a:Int)) = (lL : Int) := by rw [i64_eq _ ⟨by omega, by omega⟩]; omega
    have k0' : IntKind.i64.wrap ((b:Int) - (m:Int)) = (lR : Int) := by rw [i64_eq _ ⟨by omega, by omega⟩]; omega
    have HP := Lib.hid hp
    have HB := Lib.hid hb
    have HN := Lib.hid hn
    have HC := Lib.hid hc
    have HCL := Lib.hid hcL
    have HCR := Lib.hid hcR
    have HPL := Lib.hid hPL
    have HPR := Lib.hid hPR
    have HZ := Lib.hid hz0
    have SY := Lib.hid hsy
    have IH := Lib.hid ih
    have HPP := Lib.hid hPP
    have HKK := Lib.hid hk
    have HA := Lib.hid ha
    have HM := Lib.hid hm
    have HBB := Lib.hid hbb
    have HL1 := Lib.hid hL
    have HR1 := Lib.hid hR
    have HLL := Lib.hid hlL
    have HLR := Lib.hid hlR
    clear hp hb hn hc hcL hcR hPL hPR hz0 hsy ih hPP hk ha hm hbb hL hR hlL hlR
    by_cases q1 : lL = 1
    · --[
      as_aux_lemma =>
        have hx0 : L = [gI L 0] := by
          have h1 := HLL.out
          rw [q1] at h1
          match L, h1 with
          | [x], _ => rfl
        obtain ⟨x0, hx0e⟩ : ∃ x0, x0 = gI L 0 := ⟨_, rfl⟩
        have ma : m = a + 1 := by have := HM.out; rw [← HLL.out, q1] at this; exact this
        subst q1
        rw [← hx0e] at hx0
        have HX0 := Lib.hid hx0
        have hcx : ∀ W, Blk W g (iA zs0) 3 → W.cell? ⟨g, a, none⟩ = some (.int .i64 x0) := fun W hW => by rw [HCL.out W hW a (Nat.le_refl _) hna, Nat.sub_self, hx0e]
        have hpx : P x0 := by have := HPL.out a (Nat.le_refl _) hna; rwa [Nat.sub_self, ← hx0e] at this
        have HMA := Lib.hid ma
        have HCX := Lib.hid hcx
        have HPX := Lib.hid hpx
        clear hcx hpx
        clear hx0 hx0e ma
        go_enter Try.func115, Try.ntmps115
        go_upto_region 3 with (fail)
        go_loopw [10, 11] (fun s t wr => ∃ i j : Nat, s = .int .i64 i ∧ t = .int .i64 j ∧ m ≤ i ∧ i ≤ j ∧ j ≤ b ∧ Hid ((j < b → ¬ cmp (gI R (j - m)) x0 < 0) ∧ (m < i → cmp (gI R (i - 1 - m)) x0 < 0)) ∧ Hid (Blk wr g (iA zs0) 3) ∧ Hid (Only (fun k => k = g) w wr)) (fun s t _ => (intOf t).toNat - (intOf s).toNat)
        case atStart => exact ⟨m, b, rfl, rfl, Nat.le_refl _, by omega, Nat.le_refl _, ⟨fun h => absurd h (Nat.lt_irrefl _), fun h => absurd h (Nat.lt_irrefl _)⟩, HB.out, Only.refl _ _⟩
        case round =>
          clear HB
          obtain ⟨i, j, rfl, rfl, hi1, hij, hjb, HF, HB, HO⟩ := hrel
          by_cases hlt : i < j
          · obtain ⟨h, hh⟩ : ∃ h, h = (i + j) / 2 := ⟨_, rfl⟩
            have h1 : i ≤ h := by omega
            have h2 : h < j := by omega
            have c1 := HCR.out wr HB.out h (by omega) (by omega)
            have c0 := HCX.out wr HB.out
            have hp1 := HPR.out h (by omega) (by omega)
            obtain ⟨y, hy⟩ : ∃ y, y = gI R (h - m) := ⟨_, rfl⟩
            rw [← hy] at c1 hp1
            have hq := fun nn => HC.out (wr.drewN nn) (HO.out.tr (Only.of_ext (Ext.of_drewN wr nn))) y x0 hp1 HPX.out
            obtain ⟨z, hz⟩ : ∃ z, z = cmp y x0 := ⟨_, rfl⟩
            rw [← hz] at hq
            have HY := Lib.hid hy
            have HZZ := Lib.hid hz
            have HHH := Lib.hid hh
            have kh : ((i:Int) + (j:Int)) / 2 = (h : Int) := by omega
            have k3 : (0:Int) ≤ (h:Int) := by omega
            have k4 : (h:Int) < (n:Int) := by omega
            have k5 : (0:Int) ≤ (a:Int) := by omega
            have k6 : (a:Int) < (n:Int) := by omega
            have HBV := Lib.hid HB.out
            have HQ := Lib.hid hq
            clear hq
            clear hy hz hp1 hh
            by_cases hneg : z < 0
            · go_upto_region 5 with (fail)
              go_quiet ((exact Calls.quiet_of (HQ.out _)))
              have hxq : Ext wr (wr.drewN nq) := Ext.of_drewN _ _
              replace HB := Lib.hid (HB.out.ext hxq)
              replace HO := Lib.hid (HO.out.tr (Only.of_ext hxq))
              generalize wr.drewN nq = wq at *
              clear hxq c0 c1 HQ HBV
              have HNF : Hid ((j < b → ¬ cmp (gI R (j - m)) x0 < 0) ∧ (m < h + 1 → cmp (gI R (h + 1 - 1 - m)) x0 < 0)) := ⟨HF.out.1, fun _ => by rw [Nat.add_sub_cancel, ← HY.out, ← HZZ.out]; exact hneg⟩
              go_wp2
              go_roundw
              case rel => exact ⟨h + 1, j, by go_num, rfl, by omega, by omega, hjb, HNF, HB, HO⟩
              case measure => simp [intOf]; omega
            · go_upto_region 5 with (fail)
              go_quiet ((exact Calls.quiet_of (HQ.out _)))
              have hxq : Ext wr (wr.drewN nq) := Ext.of_drewN _ _
              replace HB := Lib.hid (HB.out.ext hxq)
              replace HO := Lib.hid (HO.out.tr (Only.of_ext hxq))
              generalize wr.drewN nq = wq at *
              clear hxq c0 c1 HQ HBV
              have HNF : Hid ((h < b → ¬ cmp (gI R (h - m)) x0 < 0) ∧ (m < i → cmp (gI R (i - 1 - m)) x0 < 0)) := ⟨fun _ => by rw [← HY.out, ← HZZ.out]; exact hneg, HF.out.2⟩
              go_wp2
              go_roundw
              case rel => exact ⟨i, h, rfl, rfl, hi1, by omega, by omega, HNF, HB, HO⟩
              case measure => simp [intOf]; omega
          · obtain rfl : i = j := by omega
            clear hlt
            obtain ⟨v, hv⟩ : ∃ v, v = i - m := ⟨_, rfl⟩
            have hmg : Mgd lt L R (R.take v ++ (x0 :: R.drop v)) := by
              have hs := SY.out
              rw [HX0.out] at hs ⊢
              exact Mgd.one o hs (by have := HBB.out; omega) (fun h => by have := HF.out.1 (by have := HBB.out; omega); rwa [← hv] at this) (fun h => by have := HF.out.2 (by omega); rwa [show i - 1 - m = v - 1 by omega] at this)
            obtain ⟨F, hF⟩ : ∃ F, F = upF v a zs0 := ⟨_, rfl⟩
            have hFe : F = pre ++ ((R.take v ++ (x0 :: R.drop v)) ++ post) := by
              have h1 := upF_app x0 (R.take v) pre (R.drop v ++ post)
              have h2 : (R.take v).length = v := by rw [List.length_take]; have := HBB.out; omega
              have h3 : L ++ (R ++ post) = x0 :: (R.take v ++ (R.drop v ++ post)) := by
                conv => lhs; rw [HX0.out]
                rw [← List.append_assoc (R.take v), List.take_append_drop]; rfl
              rw [h2] at h1
              rw [hF, HZ.out, h3, HA.out, h1]
              simp
            obtain ⟨e1, he1⟩ : ∃ e1, e1 = i - 1 := ⟨_, rfl⟩
            have ke : IntKind.i64.wrap ((i:Int) - 1) = (e1:Int) := by rw [i64_eq _ ⟨by omega, by omega⟩]; omega
            have HE1 := Lib.hid (show e1 = a + v by have := HMA.out; omega)
            have hen : e1 < n := by omega
            have MG := Lib.hid hmg
            have FE := Lib.hid hFe
            have FU := Lib.hid hF
            clear hmg hFe hF
            clear hv he1
            go_upto_region 9 with (fail)
            obtain ⟨w5, rfl⟩ : ∃ W, W = wr := ⟨wr, rfl⟩
            go_loopw [13] (fun t wr => ∃ c : Nat, c ≤ v ∧ t = .int .i64 ((a + c : Nat) : Int) ∧ ∃ zs, Hid (Blk wr g (iA zs) 3) ∧ Hid (zs.length = n) ∧ Hid (F = upF (v - c) (a + c) zs) ∧ Hid (Only (fun k => k = g) w wr)) (fun t _ => n - (intOf t).toNat)
            case atStart => exact ⟨0, Nat.zero_le _, by go_num, zs0, HB.out, HN.out, FU.out, HO.out⟩
            case round =>
              clear HB HO FU
              obtain ⟨c, hcv, rfl, zs, HB, HL, HE, HO⟩ := hrel
              obtain ⟨p, hpa⟩ : ∃ p, p = a + c := ⟨_, rfl⟩
              rw [← hpa]
              by_cases hlt : c < v
              · obtain ⟨q, hqa⟩ : ∃ q, q = p + 1 := ⟨_, rfl⟩
                have hpe : p < e1 := by have := HE1.out; omega
                have k1 : IntKind.i64.wrap ((p:Int) + 1) = (q:Int) := by rw [i64_eq _ ⟨by omega, by omega⟩]; omega
                have HNX : Hid (F = upF (v - (c + 1)) (a + (c + 1)) (swap2 zs p q)) := by
                  show F = _
                  rw [HE.out, show v - c = (v - (c + 1)) + 1 by omega, hqa, hpa]
                  rfl
                have HPA := Lib.hid hpa
                have HQA := Lib.hid (show q = a + (c + 1) by omega)
                have hqn : q < n := by have := HE1.out; omega
                clear hqa hpa
                have hl := HL.out
                have c1 := HB.out.int (show p < zs.length by omega)
                have c0 := HB.out.int (show q < zs.length by omega)
                obtain ⟨x, hx⟩ : ∃ x, x = gI zs p := ⟨_, rfl⟩
                obtain ⟨y, hy⟩ : ∃ y, y = gI zs q := ⟨_, rfl⟩
                rw [← hx] at c1
                rw [← hy] at c0
                have HSW : Hid (swap2 zs p q = (zs.set p y).set q x) := by show swap2 zs p q = _; rw [hx, hy]; rfl
                have HLP := Lib.hid (show p < (iA zs).size by rw [iA_size]; omega)
                have HLQ := Lib.hid (show q < (iA zs).size by rw [iA_size]; omega)
                have k3 : (0:Int) ≤ (p:Int) := by omega
                have k4 : (p : Int) < (n : Int) := by omega
                have k5 : (0:Int) ≤ (q:Int) := by omega
                have k6 : (q : Int) < (n : Int) := by omega
                clear hx hy hl
                go_upto_region 11 with (fail)
                have hxd : Ext wr wr.drew := (Below.refl _ wr).drew
                have hb3 := HB.out.ext hxd
                have ho3 := HO.out.tr (Only.of_ext hxd)
                replace c0 := hxd.cellSome c0
                replace c1 := hxd.cellSome c1
                refine wp_region_K (fun _ => True) 16 (by kernel_rfl) trivial (fun hHeld => ?_)
                clear HB HO hxd
                have HB3 := Lib.hid hb3
                have HO3 := Lib.hid ho3
                clear hb3 ho3
                generalize wr.drew = wA at *
                refine wpAnyK_takeL (i := 0) (v := ?_) rfl (by kernel_rfl) (by kernel_rfl) (by kernel_rfl) (by kernel_rfl) (fun _ _ _ h => h) (Or.inl ⟨by rfl, ?_⟩) hHeld ?_
                rotate_left
                · intro w hSw; (try dsimp only at hSw); go_simp; (try with_reducible rfl)
                try simp only [Act.put, List.setIfInBounds_toArray, List.set_cons_zero, List.set_cons_succ]
                refine wpAnyK_takeL (i := 1) (v := ?_) rfl (by kernel_rfl) (by kernel_rfl) (by kernel_rfl) (by kernel_rfl) (fun _ _ _ h => h) (Or.inl ⟨by rfl, ?_⟩) hHeld ?_
                rotate_left
                · intro w hSw; (try dsimp only at hSw); go_simp; (try with_reducible rfl)
                try simp only [Act.put, List.setIfInBounds_toArray, List.set_cons_zero, List.set_cons_succ]
                refine wpAnyK_takeL (i := 2) (v := ?_) rfl (by kernel_rfl) (by kernel_rfl) (by kernel_rfl) (by kernel_rfl) (fun _ _ _ h => h) (Or.inl ⟨by rfl, ?_⟩) hHeld ?_
                rotate_left
                · intro w hSw; (try dsimp only at hSw); go_simp; (try with_reducible rfl)
                try simp only [Act.put, List.setIfInBounds_toArray, List.set_cons_zero, List.set_cons_succ]
                refine wpAnyK_takeL (i := 3) (v := ?_) rfl (by kernel_rfl) (by kernel_rfl) (by kernel_rfl) (by kernel_rfl) (fun _ _ _ h => h) (Or.inl ⟨by rfl, ?_⟩) hHeld ?_
                rotate_left
                · intro w hSw; (try dsimp only at hSw); go_simp; (try with_reducible rfl)
                try simp only [Act.put, List.setIfInBounds_toArray, List.set_cons_zero, List.set_cons_succ]
                refine wpAnyK_takeL (i := 4) (v := ?_) rfl (by kernel_rfl) (by kernel_rfl) (by kernel_rfl) (by kernel_rfl) (fun _ _ _ h => h) (Or.inl ⟨by rfl, ?_⟩) hHeld ?_
                rotate_left
                · intro w hSw; (try dsimp only at hSw); go_simp; (try with_reducible rfl)
                try simp only [Act.put, List.setIfInBounds_toArray, List.set_cons_zero, List.set_cons_succ]
                refine wpAnyK_takeL (i := 5) (v := ?_) rfl (by kernel_rfl) (by kernel_rfl) (by kernel_rfl) (by kernel_rfl) (fun _ _ _ h => h) (Or.inl ⟨by rfl, ?_⟩) hHeld ?_
                rotate_left
                · intro w hSw; (try dsimp only at hSw); go_simp; (try with_reducible rfl)
                try simp only [Act.put, List.setIfInBounds_toArray, List.set_cons_zero, List.set_cons_succ]
                refine wpAnyK_takeL (i := 6) (v := ?_) rfl (by kernel_rfl) (by kernel_rfl) (by kernel_rfl) (by kernel_rfl) (fun _ _ _ h => h) (Or.inl ⟨by rfl, ?_⟩) hHeld ?_
                rotate_left
                · intro w hSw; (try dsimp only at hSw); go_simp; (try with_reducible rfl)
                try simp only [Act.put, List.setIfInBounds_toArray, List.set_cons_zero, List.set_cons_succ]
                refine wpAnyK_takeL (i := 7) (v := ?_) rfl (by kernel_rfl) (by kernel_rfl) (by kernel_rfl) (by kernel_rfl) (fun _ _ _ h => h) (Or.inl ⟨by rfl, ?_⟩) hHeld ?_
                rotate_left
                · intro w hSw; (try dsimp only at hSw); go_simp; (try with_reducible rfl)
                try simp only [Act.put, List.setIfInBounds_toArray, List.set_cons_zero, List.set_cons_succ]
                refine wpAnyK_takeL (i := 8) (v := ?_) rfl (by kernel_rfl) (by kernel_rfl) (by kernel_rfl) (by kernel_rfl) (fun _ _ _ h => h) (Or.inl ⟨by rfl, ?_⟩) hHeld ?_
                rotate_left
                · intro w hSw; (try dsimp only at hSw); go_simp; (try with_reducible rfl)
                try simp only [Act.put, List.setIfInBounds_toArray, List.set_cons_zero, List.set_cons_succ]
                refine wpAnyK_takeL (i := 10) (v := ?_) rfl (by kernel_rfl) (by kernel_rfl) (by kernel_rfl) (by kernel_rfl) (fun _ _ _ h => h) (Or.inl ⟨by rfl, ?_⟩) hHeld ?_
                rotate_left
                · intro w hSw; (try dsimp only at hSw); go_simp; (try with_reducible rfl)
                try simp only [Act.put, List.setIfInBounds_toArray, List.set_cons_zero, List.set_cons_succ]
                refine wpAnyK_takeL (i := 11) (v := ?_) rfl (by kernel_rfl) (by kernel_rfl) (by kernel_rfl) (by kernel_rfl) (fun _ _ _ h => h) (Or.inl ⟨by rfl, ?_⟩) hHeld ?_
                rotate_left
                · intro w hSw; (try dsimp only at hSw); go_simp; (try with_reducible rfl)
                try simp only [Act.put, List.setIfInBounds_toArray, List.set_cons_zero, List.set_cons_succ]
                refine wpAnyK_takeL (i := 12) (v := ?_) rfl (by kernel_rfl) (by kernel_rfl) (by kernel_rfl) (by kernel_rfl) (fun _ _ _ h => h) (Or.inl ⟨by rfl, ?_⟩) hHeld ?_
                rotate_left
                · intro w hSw; (try dsimp only at hSw); go_simp; (try with_reducible rfl)
                try simp only [Act.put, List.setIfInBounds_toArray, List.set_cons_zero, List.set_cons_succ]
                refine wpAnyK_ready (rs := [9, 13]) (by kernel_rfl) (by simp) ?_
                refine AllReadyK.consL (i := 9) rfl (fun K hK => ?_) ?_
                · go_simp
                  refine hK.out _ _ (fun _ => trivial) (fun hHeld2 => ?_)
                  clear hK K
                  try clear hHeld
                  have hHeld := hHeld2 (by decide)
                  clear hHeld2
                  try simp only [Act.put, List.setIfInBounds_toArray, List.set_cons_zero, List.set_cons_succ]
                  refine wpAnyK_ready (rs := [13]) (by kernel_rfl) (by simp) ?_
                  refine AllReadyK.consL (i := 13) rfl (fun K hK => ?_) ?_
                  · go_simp
                    refine hK.out _ _ (fun _ => trivial) (fun hHeld2 => ?_)
                    clear hK K
                    try clear hHeld
                    have hHeld := hHeld2 (by decide)
                    clear hHeld2
                    try simp only [Act.put, List.setIfInBounds_toArray, List.set_cons_zero, List.set_cons_succ]
                    refine wpAnyK_takeL (i := 14) (v := ?_) rfl (by kernel_rfl) (by kernel_rfl) (by kernel_rfl) (by kernel_rfl) (fun _ _ _ h => h) (Or.inl ⟨by rfl, ?_⟩) hHeld ?_
                    rotate_left
                    · intro w hSw; (try dsimp only at hSw); go_simp; (try with_reducible rfl)
                    try simp only [Act.put, List.setIfInBounds_toArray, List.set_cons_zero, List.set_cons_succ]
                    refine wpAnyK_ready (rs := [15]) (by kernel_rfl) (by simp) ?_
                    refine AllReadyK.consL (i := 15) rfl (fun K hK => ?_) ?_
                    · refine step_setK (i := p) (v := .int .i64 y) rfl rfl HB3.out rfl rfl HLP.out (by kernel_rfl) rfl (by simp [Value.oneCell']) ?_
                      intro wB hw1 hb1 ho1
                      rw [iA_set] at hb1
                      clear hw1
                      refine hK.out _ _ (fun _ => trivial) (fun hHeld2 => ?_)
                      clear hK K
                      try clear hHeld
                      have hHeld := hHeld2 (by decide)
                      clear hHeld2
                      try simp only [Act.put, List.setIfInBounds_toArray, List.set_cons_zero, List.set_cons_succ]
                      refine wpAnyK_ready (rs := [16]) (by kernel_rfl) (by simp) ?_
                      refine AllReadyK.consL (i := 16) rfl (fun K hK => ?_) ?_
                      · go_simp
                        refine hK.out _ _ (fun h => absurd h (by decide)) (fun hHeld2 => ?_)
                        clear hK K hHeld2
                        try clear hHeld
                        try simp only [Act.put, List.setIfInBounds_toArray, List.set_cons_zero, List.set_cons_succ]
                        refine wpAnyK_ready (rs := [17]) (by kernel_rfl) (by simp) ?_
                        refine AllReadyK.consL (i := 17) rfl (fun K hK => ?_) ?_
                        · refine step_setK (i := q) (v := .int .i64 x) rfl rfl hb1 rfl rfl (by have := HLQ.out; rw [iA_size] at this ⊢; rw [List.length_set]; omega) (by kernel_rfl) rfl (by simp [Value.oneCell']) ?_
                          intro wC hw2 hb2 ho2
                          rw [iA_set, ← HSW.out] at hb2
                          refine hK.out _ _ (fun h => absurd h (by decide)) (fun hHeld2 => ?_)
                          clear hK K hHeld2
                          try clear hHeld
                          try simp only [Act.put, List.setIfInBounds_toArray, List.set_cons_zero, List.set_cons_succ]
                          refine wpAnyK_done (by kernel_rfl) ?_ _
                          have HO4 := Lib.hid ((HO3.out.tr ho1).tr ho2)
                          have HB4 := Lib.hid hb2
                          clear HO3 HB3 hb1 hb2 ho1 ho2 hw2 c0 c1
                          go_wp2
                          go_roundw
                          case rel => exact ⟨c + 1, by omega, by rw [HQA.out], _, HB4, Lib.hid (by rw [swap2_len]; exact HL.out), HNX, HO4⟩
                          case measure => have h8 := HQA.out; have h9 := HPA.out; simp only [intOf, Int.toNat_natCast]; omega
                        · exact AllReadyK.nil
                      · exact AllReadyK.nil
                    · exact AllReadyK.nil
                  · exact AllReadyK.nil
                · refine AllReadyK.consL (i := 13) rfl (fun K hK => ?_) ?_
                  · go_simp
                    refine hK.out _ _ (fun _ => trivial) (fun hHeld2 => ?_)
                    clear hK K
                    try clear hHeld
                    have hHeld := hHeld2 (by decide)
                    clear hHeld2
                    try simp only [Act.put, List.setIfInBounds_toArray, List.set_cons_zero, List.set_cons_succ]
                    refine wpAnyK_ready (rs := [9]) (by kernel_rfl) (by simp) ?_
                    refine AllReadyK.consL (i := 9) rfl (fun K hK => ?_) ?_
                    · go_simp
                      refine hK.out _ _ (fun _ => trivial) (fun hHeld2 => ?_)
                      clear hK K
                      try clear hHeld
                      have hHeld := hHeld2 (by decide)
                      clear hHeld2
                      try simp only [Act.put, List.setIfInBounds_toArray, List.set_cons_zero, List.set_cons_succ]
                      refine wpAnyK_takeL (i := 14) (v := ?_) rfl (by kernel_rfl) (by kernel_rfl) (by kernel_rfl) (by kernel_rfl) (fun _ _ _ h => h) (Or.inl ⟨by rfl, ?_⟩) hHeld ?_
                      rotate_left
                      · intro w hSw; (try dsimp only at hSw); go_simp; (try with_reducible rfl)
                      try simp only [Act.put, List.setIfInBounds_toArray, List.set_cons_zero, List.set_cons_succ]
                      refine wpAnyK_ready (rs := [15]) (by kernel_rfl) (by simp) ?_
                      refine AllReadyK.consL (i := 15) rfl (fun K hK => ?_) ?_
                      · refine step_setK (i := p) (v := .int .i64 y) rfl rfl HB3.out rfl rfl HLP.out (by kernel_rfl) rfl (by simp [Value.oneCell']) ?_
                        intro wB hw1 hb1 ho1
                        rw [iA_set] at hb1
                        clear hw1
                        refine hK.out _ _ (fun _ => trivial) (fun hHeld2 => ?_)
                        clear hK K
                        try clear hHeld
                        have hHeld := hHeld2 (by decide)
                        clear hHeld2
                        try simp only [Act.put, List.setIfInBounds_toArray, List.set_cons_zero, List.set_cons_succ]
                        refine wpAnyK_ready (rs := [16]) (by kernel_rfl) (by simp) ?_
                        refine AllReadyK.consL (i := 16) rfl (fun K hK => ?_) ?_
                        · go_simp
                          refine hK.out _ _ (fun h => absurd h (by decide)) (fun hHeld2 => ?_)
                          clear hK K hHeld2
                          try clear hHeld
                          try simp only [Act.put, List.setIfInBounds_toArray, List.set_cons_zero, List.set_cons_succ]
                          refine wpAnyK_ready (rs := [17]) (by kernel_rfl) (by simp) ?_
                          refine AllReadyK.consL (i := 17) rfl (fun K hK => ?_) ?_
                          · refine step_setK (i := q) (v := .int .i64 x) rfl rfl hb1 rfl rfl (by have := HLQ.out; rw [iA_size] at this ⊢; rw [List.length_set]; omega) (by kernel_rfl) rfl (by simp [Value.oneCell']) ?_
                            intro wC hw2 hb2 ho2
                            rw [iA_set, ← HSW.out] at hb2
                            refine hK.out _ _ (fun h => absurd h (by decide)) (fun hHeld2 => ?_)
                            clear hK K hHeld2
                            try clear hHeld
                            try simp only [Act.put, List.setIfInBounds_toArray, List.set_cons_zero, List.set_cons_succ]
                            refine wpAnyK_done (by kernel_rfl) ?_ _
                            have HO4 := Lib.hid ((HO3.out.tr ho1).tr ho2)
                            have HB4 := Lib.hid hb2
                            clear HO3 HB3 hb1 hb2 ho1 ho2 hw2 c0 c1
                            go_wp2
                            go_roundw
                            case rel => exact ⟨c + 1, by omega, by rw [HQA.out], _, HB4, Lib.hid (by rw [swap2_len]; exact HL.out), HNX, HO4⟩
                            case measure => have h8 := HQA.out; have h9 := HPA.out; simp only [intOf, Int.toNat_natCast]; omega
                          · exact AllReadyK.nil
                        · exact AllReadyK.nil
                      · exact AllReadyK.nil
                    · exact AllReadyK.nil
                  · exact AllReadyK.nil
              · have hf : F = zs := by rw [HE.out, show v - c = 0 by omega]; rfl
                have hpe : ¬ p < e1 := by have := HE1.out; omega
                have HFZ := Lib.hid hf
                clear hf hpa
                go_wp2
                go_end0
                exact HP.out _ _ ⟨rfl, ⟨_, MG.out, by rw [← FE.out, HFZ.out]; exact HB.out⟩, HO.out⟩
    · by_cases q2 : lR = 1
      · --[
        as_aux_lemma =>
          have hx0 : R = [gI R 0] := by
            have h1 := HLR.out
            rw [q2] at h1
            match R, h1 with
            | [x], _ => rfl
          obtain ⟨y0, hy0e⟩ : ∃ y0, y0 = gI R 0 := ⟨_, rfl⟩
          have mb : b = m + 1 := by have := HBB.out; rw [← HLR.out, q2] at this; exact this
          subst q2
          rw [← hy0e] at hx0
          have HX0 := Lib.hid hx0
          have hcy : ∀ W, Blk W g (iA zs0) 3 → W.cell? ⟨g, m, none⟩ = some (.int .i64 y0) := fun W hW => by rw [HCR.out W hW m (Nat.le_refl _) hmb, Nat.sub_self, hy0e]
          have hpy : P y0 := by have := HPR.out m (Nat.le_refl _) hmb; rwa [Nat.sub_self, ← hy0e] at this
          have HMB := Lib.hid mb
          have q1' : ((lL:Int) == 1) = false := by simp; omega
          have HCY := Lib.hid hcy
          have HPY := Lib.hid hpy
          clear hcy hpy
          clear hx0 hy0e mb
          go_enter Try.func115, Try.ntmps115
          go_upto_region 15 with (fail)
          go_loopw [14, 15] (fun s t wr => ∃ i j : Nat, s = .int .i64 i ∧ t = .int .i64 j ∧ a ≤ i ∧ i ≤ j ∧ j ≤ m ∧ Hid ((a < i → ¬ cmp y0 (gI L (i - 1 - a)) < 0) ∧ (j < m → cmp y0 (gI L (j - a)) < 0)) ∧ Hid (Blk wr g (iA zs0) 3) ∧ Hid (Only (fun k => k = g) w wr)) (fun s t _ => (intOf t).toNat - (intOf s).toNat)
          case atStart => exact ⟨a, m, rfl, rfl, Nat.le_refl _, by omega, Nat.le_refl _, ⟨fun h => absurd h (Nat.lt_irrefl _), fun h => absurd h (Nat.lt_irrefl _)⟩, HB.out, Only.refl _ _⟩
          case round =>
            clear HB
            obtain ⟨i, j, rfl, rfl, hi1, hij, hjb, HF, HB, HO⟩ := hrel
            by_cases hlt : i < j
            · obtain ⟨h, hh⟩ : ∃ h, h = (i + j) / 2 := ⟨_, rfl⟩
              have h1 : i ≤ h := by omega
              have h2 : h < j := by omega
              have c1 := HCL.out wr HB.out h (by omega) (by omega)
              have c0 := HCY.out wr HB.out
              have hp1 := HPL.out h (by omega) (by omega)
              obtain ⟨y, hy⟩ : ∃ y, y = gI L (h - a) := ⟨_, rfl⟩
              rw [← hy] at c1 hp1
              have hq := fun nn => HC.out (wr.drewN nn) (HO.out.tr (Only.of_ext (Ext.of_drewN wr nn))) y0 y HPY.out hp1
              obtain ⟨z, hz⟩ : ∃ z, z = cmp y0 y := ⟨_, rfl⟩
              rw [← hz] at hq
              have HY := Lib.hid hy
              have HZZ := Lib.hid hz
              have kh : ((i:Int) + (j:Int)) / 2 = (h : Int) := by omega
              have k3 : (0:Int) ≤ (h:Int) := by omega
              have k4 : (h:Int) < (n:Int) := by omega
              have k5 : (0:Int) ≤ (m:Int) := by omega
              have k6 : (m:Int) < (n:Int) := by omega
              have HQ := Lib.hid hq
              clear hq
              clear hy hz hp1 hh
              by_cases hneg : z < 0
              · go_upto_region 17 with (fail)
                go_quiet ((exact Calls.quiet_of (HQ.out _)))
                have hxq : Ext wr (wr.drewN nq) := Ext.of_drewN _ _
                replace HB := Lib.hid (HB.out.ext hxq)
                replace HO := Lib.hid (HO.out.tr (Only.of_ext hxq))
                generalize wr.drewN nq = wq at *
                clear hxq c0 c1 HQ
                have HNF : Hid ((a < i → ¬ cmp y0 (gI L (i - 1 - a)) < 0) ∧ (h < m → cmp y0 (gI L (h - a)) < 0)) := ⟨HF.out.1, fun _ => by rw [← HY.out, ← HZZ.out]; exact hneg⟩
                go_wp2
                go_roundw
                case rel => exact ⟨i, h, rfl, rfl, hi1, by omega, by omega, HNF, HB, HO⟩
                case measure => simp [intOf]; omega
              · go_upto_region 17 with (fail)
                go_quiet ((exact Calls.quiet_of (HQ.out _)))
                have hxq : Ext wr (wr.drewN nq) := Ext.of_drewN _ _
                replace HB := Lib.hid (HB.out.ext hxq)
                replace HO := Lib.hid (HO.out.tr (Only.of_ext hxq))
                generalize wr.drewN nq = wq at *
                clear hxq c0 c1 HQ
                have HNF : Hid ((a < h + 1 → ¬ cmp y0 (gI L (h + 1 - 1 - a)) < 0) ∧ (j < m → cmp y0 (gI L (j - a)) < 0)) := ⟨fun _ => by rw [Nat.add_sub_cancel, ← HY.out, ← HZZ.out]; exact hneg, HF.out.2⟩
                go_wp2
                go_roundw
                case rel => exact ⟨h + 1, j, by go_num, rfl, by omega, by omega, hjb, HNF, HB, HO⟩
                case measure => simp [intOf]; omega
            · obtain rfl : i = j := by omega
              clear hlt
              obtain ⟨u, hu⟩ : ∃ u, u = i - a := ⟨_, rfl⟩
              have hmg : Mgd lt L R (L.take u ++ (y0 :: L.drop u)) := by
                have hs := SY.out
                rw [HX0.out] at hs ⊢
                exact Mgd.last o hs (by have := HM.out; omega) (fun h => by have := HF.out.1 (by omega); rwa [show i - 1 - a = u - 1 by omega] at this) (fun h => by have := HF.out.2 (by have := HM.out; omega); rwa [← hu] at this)
              obtain ⟨F, hF⟩ : ∃ F, F = dnF (m - i) m zs0 := ⟨_, rfl⟩
              have hFe : F = pre ++ ((L.take u ++ (y0 :: L.drop u)) ++ post) := by
                have h2 : (L.drop u).length = m - i := by rw [List.length_drop]; have := HM.out; omega
                have h1 := dnF_app y0 (pre ++ L.take u) (m - i) (L.drop u) post h2
                have h3 : (pre ++ L.take u).length + (m - i) = m := by rw [List.length_append, List.length_take]; have := HM.out; have := HA.out; omega
                rw [h3] at h1
                have h4 : zs0 = pre ++ L.take u ++ (L.drop u ++ (y0 :: post)) := by
                  rw [HZ.out]
                  conv => lhs; rw [HX0.out]
                  rw [List.append_assoc pre, ← List.append_assoc (L.take u), List.take_append_drop]; rfl
                rw [hF, h4, h1]
                simp
              have MG := Lib.hid hmg
              have FE := Lib.hid hFe
              have FU := Lib.hid hF
              clear hmg hFe hF
              clear hu
              go_upto_region 21 with (fail)
              obtain ⟨w5, rfl⟩ : ∃ W, W = wr := ⟨wr, rfl⟩
              go_loopw [17] (fun t wr => ∃ c : Nat, c ≤ m - i ∧ t = .int .i64 ((m - c : Nat) : Int) ∧ ∃ zs, Hid (Blk wr g (iA zs) 3) ∧ Hid (zs.length = n) ∧ Hid (F = dnF (m - i - c) (m - c) zs) ∧ Hid (Only (fun k => k = g) w wr)) (fun t _ => (intOf t).toNat)
              case atStart => exact ⟨0, Nat.zero_le _, by go_num, zs0, HB.out, HN.out, FU.out, HO.out⟩
              case round =>
                clear HB HO FU
                obtain ⟨c, hcv, rfl, zs, HB, HL, HE, HO⟩ := hrel
                obtain ⟨p, hpa⟩ : ∃ p, p = m - c := ⟨_, rfl⟩
                rw [← hpa]
                by_cases hlt : c < m - i
                · obtain ⟨q, hqa⟩ : ∃ q, q = p - 1 := ⟨_, rfl⟩
                  have hpe : i < p := by omega
                  have k1 : IntKind.i64.wrap ((p:Int) - 1) = (q:Int) := by rw [i64_eq _ ⟨by omega, by omega⟩]; omega
                  have HNX : Hid (F = dnF (m - i - (c + 1)) (m - (c + 1)) (swap2 zs p q)) := by
                    show F = _
                    rw [HE.out, show m - i - c = (m - i - (c + 1)) + 1 by omega, hqa, ← hpa, show m - (c + 1) = p - 1 by omega]
                    rfl
                  have HPA := Lib.hid (show 0 < p by omega)
                  have HQA := Lib.hid (show q = m - (c + 1) by omega)
                  have hpm : p ≤ m := by omega
                  have hqp : q < p := by omega
                  have hqn : q < n := by omega
                  clear hqa hpa
                  have hl := HL.out
                  have c1 := HB.out.int (show p < zs.length by omega)
                  have c0 := HB.out.int (show q < zs.length by omega)
                  obtain ⟨x, hx⟩ : ∃ x, x = gI zs p := ⟨_, rfl⟩
                  obtain ⟨y, hy⟩ : ∃ y, y = gI zs q := ⟨_, rfl⟩
                  rw [← hx] at c1
                  rw [← hy] at c0
                  have HSW : Hid (swap2 zs p q = (zs.set p y).set q x) := by show swap2 zs p q = _; rw [hx, hy]; rfl
                  have HLP := Lib.hid (show p < (iA zs).size by rw [iA_size]; omega)
                  have HLQ := Lib.hid (show q < (iA zs).size by rw [iA_size]; omega)
                  have k3 : (0:Int) ≤ (p:Int) := by omega
                  have k4 : (p : Int) < (n : Int) := by omega
                  have k5 : (0:Int) ≤ (q:Int) := by omega
                  have k6 : (q : Int) < (n : Int) := by omega
                  clear hx hy hl
                  go_upto_region 23 with (fail)
                  have hxd : Ext wr wr.drew := (Below.refl _ wr).drew
                  have hb3 := HB.out.ext hxd
                  have ho3 := HO.out.tr (Only.of_ext hxd)
                  replace c0 := hxd.cellSome c0
                  replace c1 := hxd.cellSome c1
                  refine wp_region_K (fun _ => True) 16 (by kernel_rfl) trivial (fun hHeld => ?_)
                  clear HB HO hxd
                  have HB3 := Lib.hid hb3
                  have HO3 := Lib.hid ho3
                  clear hb3 ho3
                  generalize wr.drew = wA at *
                  refine wpAnyK_takeL (i := 0) (v := ?_) rfl (by kernel_rfl) (by kernel_rfl) (by kernel_rfl) (by kernel_rfl) (fun _ _ _ h => h) (Or.inl ⟨by rfl, ?_⟩) hHeld ?_
                  rotate_left
                  · intro w hSw; (try dsimp only at hSw); go_simp; (try with_reducible rfl)
                  try simp only [Act.put, List.setIfInBounds_toArray, List.set_cons_zero, List.set_cons_succ]
                  refine wpAnyK_takeL (i := 1) (v := ?_) rfl (by kernel_rfl) (by kernel_rfl) (by kernel_rfl) (by kernel_rfl) (fun _ _ _ h => h) (Or.inl ⟨by rfl, ?_⟩) hHeld ?_
                  rotate_left
                  · intro w hSw; (try dsimp only at hSw); go_simp; (try with_reducible rfl)
                  try simp only [Act.put, List.setIfInBounds_toArray, List.set_cons_zero, List.set_cons_succ]
                  refine wpAnyK_takeL (i := 2) (v := ?_) rfl (by kernel_rfl) (by kernel_rfl) (by kernel_rfl) (by kernel_rfl) (fun _ _ _ h => h) (Or.inl ⟨by rfl, ?_⟩) hHeld ?_
                  rotate_left
                  · intro w hSw; (try dsimp only at hSw); go_simp; (try with_reducible rfl)
                  try simp only [Act.put, List.setIfInBounds_toArray, List.set_cons_zero, List.set_cons_succ]
                  refine wpAnyK_takeL (i := 3) (v := ?_) rfl (by kernel_rfl) (by kernel_rfl) (by kernel_rfl) (by kernel_rfl) (fun _ _ _ h => h) (Or.inl ⟨by rfl, ?_⟩) hHeld ?_
                  rotate_left
                  · intro w hSw; (try dsimp only at hSw); go_simp; (try with_reducible rfl)
                  try simp only [Act.put, List.setIfInBounds_toArray, List.set_cons_zero, List.set_cons_succ]
                  refine wpAnyK_takeL (i := 4) (v := ?_) rfl (by kernel_rfl) (by kernel_rfl) (by kernel_rfl) (by kernel_rfl) (fun _ _ _ h => h) (Or.inl ⟨by rfl, ?_⟩) hHeld ?_
                  rotate_left
                  · intro w hSw; (try dsimp only at hSw); go_simp; (try with_reducible rfl)
                  try simp only [Act.put, List.setIfInBounds_toArray, List.set_cons_zero, List.set_cons_succ]
                  refine wpAnyK_takeL (i := 5) (v := ?_) rfl (by kernel_rfl) (by kernel_rfl) (by kernel_rfl) (by kernel_rfl) (fun _ _ _ h => h) (Or.inl ⟨by rfl, ?_⟩) hHeld ?_
                  rotate_left
                  · intro w hSw; (try dsimp only at hSw); go_simp; (try with_reducible rfl)
                  try simp only [Act.put, List.setIfInBounds_toArray, List.set_cons_zero, List.set_cons_succ]
                  refine wpAnyK_takeL (i := 6) (v := ?_) rfl (by kernel_rfl) (by kernel_rfl) (by kernel_rfl) (by kernel_rfl) (fun _ _ _ h => h) (Or.inl ⟨by rfl, ?_⟩) hHeld ?_
                  rotate_left
                  · intro w hSw; (try dsimp only at hSw); go_simp; (try with_reducible rfl)
                  try simp only [Act.put, List.setIfInBounds_toArray, List.set_cons_zero, List.set_cons_succ]
                  refine wpAnyK_takeL (i := 7) (v := ?_) rfl (by kernel_rfl) (by kernel_rfl) (by kernel_rfl) (by kernel_rfl) (fun _ _ _ h => h) (Or.inl ⟨by rfl, ?_⟩) hHeld ?_
                  rotate_left
                  · intro w hSw; (try dsimp only at hSw); go_simp; (try with_reducible rfl)
                  try simp only [Act.put, List.setIfInBounds_toArray, List.set_cons_zero, List.set_cons_succ]
                  refine wpAnyK_takeL (i := 8) (v := ?_) rfl (by kernel_rfl) (by kernel_rfl) (by kernel_rfl) (by kernel_rfl) (fun _ _ _ h => h) (Or.inl ⟨by rfl, ?_⟩) hHeld ?_
                  rotate_left
                  · intro w hSw; (try dsimp only at hSw); go_simp; (try with_reducible rfl)
                  try simp only [Act.put, List.setIfInBounds_toArray, List.set_cons_zero, List.set_cons_succ]
                  refine wpAnyK_takeL (i := 10) (v := ?_) rfl (by kernel_rfl) (by kernel_rfl) (by kernel_rfl) (by kernel_rfl) (fun _ _ _ h => h) (Or.inl ⟨by rfl, ?_⟩) hHeld ?_
                  rotate_left
                  · intro w hSw; (try dsimp only at hSw); go_simp; (try with_reducible rfl)
                  try simp only [Act.put, List.setIfInBounds_toArray, List.set_cons_zero, List.set_cons_succ]
                  refine wpAnyK_takeL (i := 11) (v := ?_) rfl (by kernel_rfl) (by kernel_rfl) (by kernel_rfl) (by kernel_rfl) (fun _ _ _ h => h) (Or.inl ⟨by rfl, ?_⟩) hHeld ?_
                  rotate_left
                  · intro w hSw; (try dsimp only at hSw); go_simp; (try with_reducible rfl)
                  try simp only [Act.put, List.setIfInBounds_toArray, List.set_cons_zero, List.set_cons_succ]
                  refine wpAnyK_takeL (i := 12) (v := ?_) rfl (by kernel_rfl) (by kernel_rfl) (by kernel_rfl) (by kernel_rfl) (fun _ _ _ h => h) (Or.inl ⟨by rfl, ?_⟩) hHeld ?_
                  rotate_left
                  · intro w hSw; (try dsimp only at hSw); go_simp; (try with_reducible rfl)
                  try simp only [Act.put, List.setIfInBounds_toArray, List.set_cons_zero, List.set_cons_succ]
                  refine wpAnyK_ready (rs := [9, 13]) (by kernel_rfl) (by simp) ?_
                  refine AllReadyK.consL (i := 9) rfl (fun K hK => ?_) ?_
                  · go_simp
                    refine hK.out _ _ (fun _ => trivial) (fun hHeld2 => ?_)
                    clear hK K
                    try clear hHeld
                    have hHeld := hHeld2 (by decide)
                    clear hHeld2
                    try simp only [Act.put, List.setIfInBounds_toArray, List.set_cons_zero, List.set_cons_succ]
                    refine wpAnyK_ready (rs := [13]) (by kernel_rfl) (by simp) ?_
                    refine AllReadyK.consL (i := 13) rfl (fun K hK => ?_) ?_
                    · go_simp
                      refine hK.out _ _ (fun _ => trivial) (fun hHeld2 => ?_)
                      clear hK K
                      try clear hHeld
                      have hHeld := hHeld2 (by decide)
                      clear hHeld2
                      try simp only [Act.put, List.setIfInBounds_toArray, List.set_cons_zero, List.set_cons_succ]
                      refine wpAnyK_takeL (i := 14) (v := ?_) rfl (by kernel_rfl) (by kernel_rfl) (by kernel_rfl) (by kernel_rfl) (fun _ _ _ h => h) (Or.inl ⟨by rfl, ?_⟩) hHeld ?_
                      rotate_left
                      · intro w hSw; (try dsimp only at hSw); go_simp; (try with_reducible rfl)
                      try simp only [Act.put, List.setIfInBounds_toArray, List.set_cons_zero, List.set_cons_succ]
                      refine wpAnyK_ready (rs := [15]) (by kernel_rfl) (by simp) ?_
                      refine AllReadyK.consL (i := 15) rfl (fun K hK => ?_) ?_
                      · refine step_setK (i := p) (v := .int .i64 y) rfl rfl HB3.out rfl rfl HLP.out (by kernel_rfl) rfl (by simp [Value.oneCell']) ?_
                        intro wB hw1 hb1 ho1
                        rw [iA_set] at hb1
                        clear hw1
                        refine hK.out _ _ (fun _ => trivial) (fun hHeld2 => ?_)
                        clear hK K
                        try clear hHeld
                        have hHeld := hHeld2 (by decide)
                        clear hHeld2
                        try simp only [Act.put, List.setIfInBounds_toArray, List.set_cons_zero, List.set_cons_succ]
                        refine wpAnyK_ready (rs := [16]) (by kernel_rfl) (by simp) ?_
                        refine AllReadyK.consL (i := 16) rfl (fun K hK => ?_) ?_
                        · go_simp
                          refine hK.out _ _ (fun h => absurd h (by decide)) (fun hHeld2 => ?_)
                          clear hK K hHeld2
                          try clear hHeld
                          try simp only [Act.put, List.setIfInBounds_toArray, List.set_cons_zero, List.set_cons_succ]
                          refine wpAnyK_ready (rs := [17]) (by kernel_rfl) (by simp) ?_
                          refine AllReadyK.consL (i := 17) rfl (fun K hK => ?_) ?_
                          · refine step_setK (i := q) (v := .int .i64 x) rfl rfl hb1 rfl rfl (by have := HLQ.out; rw [iA_size] at this ⊢; rw [List.length_set]; omega) (by kernel_rfl) rfl (by simp [Value.oneCell']) ?_
                            intro wC hw2 hb2 ho2
                            rw [iA_set, ← HSW.out] at hb2
                            refine hK.out _ _ (fun h => absurd h (by decide)) (fun hHeld2 => ?_)
                            clear hK K hHeld2
                            try clear hHeld
                            try simp only [Act.put, List.setIfInBounds_toArray, List.set_cons_zero, List.set_cons_succ]
                            refine wpAnyK_done (by kernel_rfl) ?_ _
                            have HO4 := Lib.hid ((HO3.out.tr ho1).tr ho2)
                            have HB4 := Lib.hid hb2
                            clear HO3 HB3 hb1 hb2 ho1 ho2 hw2 c0 c1
                            go_wp2
                            go_roundw
                            case rel => exact ⟨c + 1, by omega, by rw [HQA.out], _, HB4, Lib.hid (by rw [swap2_len]; exact HL.out), HNX, HO4⟩
                            case measure => have h8 := HQA.out; have h9 := HPA.out; simp only [intOf, Int.toNat_natCast]; omega
                          · exact AllReadyK.nil
                        · exact AllReadyK.nil
                      · exact AllReadyK.nil
                    · exact AllReadyK.nil
                  · refine AllReadyK.consL (i := 13) rfl (fun K hK => ?_) ?_
                    · go_simp
                      refine hK.out _ _ (fun _ => trivial) (fun hHeld2 => ?_)
                      clear hK K
                      try clear hHeld
                      have hHeld := hHeld2 (by decide)
                      clear hHeld2
                      try simp only [Act.put, List.setIfInBounds_toArray, List.set_cons_zero, List.set_cons_succ]
                      refine wpAnyK_ready (rs := [9]) (by kernel_rfl) (by simp) ?_
                      refine AllReadyK.consL (i := 9) rfl (fun K hK => ?_) ?_
                      · go_simp
                        refine hK.out _ _ (fun _ => trivial) (fun hHeld2 => ?_)
                        clear hK K
                        try clear hHeld
                        have hHeld := hHeld2 (by decide)
                        clear hHeld2
                        try simp only [Act.put, List.setIfInBounds_toArray, List.set_cons_zero, List.set_cons_succ]
                        refine wpAnyK_takeL (i := 14) (v := ?_) rfl (by kernel_rfl) (by kernel_rfl) (by kernel_rfl) (by kernel_rfl) (fun _ _ _ h => h) (Or.inl ⟨by rfl, ?_⟩) hHeld ?_
                        rotate_left
                        · intro w hSw; (try dsimp only at hSw); go_simp; (try with_reducible rfl)
                        try simp only [Act.put, List.setIfInBounds_toArray, List.set_cons_zero, List.set_cons_succ]
                        refine wpAnyK_ready (rs := [15]) (by kernel_rfl) (by simp) ?_
                        refine AllReadyK.consL (i := 15) rfl (fun K hK => ?_) ?_
                        · refine step_setK (i := p) (v := .int .i64 y) rfl rfl HB3.out rfl rfl HLP.out (by kernel_rfl) rfl (by simp [Value.oneCell']) ?_
                          intro wB hw1 hb1 ho1
                          rw [iA_set] at hb1
                          clear hw1
                          refine hK.out _ _ (fun _ => trivial) (fun hHeld2 => ?_)
                          clear hK K
                          try clear hHeld
                          have hHeld := hHeld2 (by decide)
                          clear hHeld2
                          try simp only [Act.put, List.setIfInBounds_toArray, List.set_cons_zero, List.set_cons_succ]
                          refine wpAnyK_ready (rs := [16]) (by kernel_rfl) (by simp) ?_
                          refine AllReadyK.consL (i := 16) rfl (fun K hK => ?_) ?_
                          · go_simp
                            refine hK.out _ _ (fun h => absurd h (by decide)) (fun hHeld2 => ?_)
                            clear hK K hHeld2
                            try clear hHeld
                            try simp only [Act.put, List.setIfInBounds_toArray, List.set_cons_zero, List.set_cons_succ]
                            refine wpAnyK_ready (rs := [17]) (by kernel_rfl) (by simp) ?_
                            refine AllReadyK.consL (i := 17) rfl (fun K hK => ?_) ?_
                            · refine step_setK (i := q) (v := .int .i64 x) rfl rfl hb1 rfl rfl (by have := HLQ.out; rw [iA_size] at this ⊢; rw [List.length_set]; omega) (by kernel_rfl) rfl (by simp [Value.oneCell']) ?_
                              intro wC hw2 hb2 ho2
                              rw [iA_set, ← HSW.out] at hb2
                              refine hK.out _ _ (fun h => absurd h (by decide)) (fun hHeld2 => ?_)
                              clear hK K hHeld2
                              try clear hHeld
                              try simp only [Act.put, List.setIfInBounds_toArray, List.set_cons_zero, List.set_cons_succ]
                              refine wpAnyK_done (by kernel_rfl) ?_ _
                              have HO4 := Lib.hid ((HO3.out.tr ho1).tr ho2)
                              have HB4 := Lib.hid hb2
                              clear HO3 HB3 hb1 hb2 ho1 ho2 hw2 c0 c1
                              go_wp2
                              go_roundw
                              case rel => exact ⟨c + 1, by omega, by rw [HQA.out], _, HB4, Lib.hid (by rw [swap2_len]; exact HL.out), HNX, HO4⟩
                              case measure => have h8 := HQA.out; have h9 := HPA.out; simp only [intOf, Int.toNat_natCast]; omega
                            · exact AllReadyK.nil
                          · exact AllReadyK.nil
                        · exact AllReadyK.nil
                      · exact AllReadyK.nil
                    · exact AllReadyK.nil
                · have hf : F = zs := by rw [HE.out, show m - i - c = 0 by omega]; rfl
                  have hpe : ¬ i < p := by omega
                  have HFZ := Lib.hid hf
                  clear hf hpa
                  go_wp2
                  go_end0
                  exact HP.out _ _ ⟨rfl, ⟨_, MG.out, by rw [← FE.out, HFZ.out]; exact HB.out⟩, HO.out⟩
      · have q1' : ((lL:Int) == 1) = false := by simp; omega
        have q2' : ((lR:Int) == 1) = false := by simp; omega
        obtain ⟨mid, hmid⟩ : ∃ mid, mid = (a + b) / 2 := ⟨_, rfl⟩
        have kmid : ((a:Int) + (b:Int)) / 2 = (mid : Int) := by omega
        obtain ⟨nn, hnn⟩ : ∃ s, s = mid + m := ⟨_, rfl⟩
        have kn : IntKind.i64.wrap ((mid:Int) + (m:Int)) = (nn : Int) := by rw [i64_eq _ ⟨by omega, by omega⟩]; omega
        have HMID := Lib.hid hmid
        have HNN := Lib.hid hnn
        have hnb : mid < b := by omega
        have hna2 : a < mid := by have := HM.out; omega
        have hnn3 : nn ≤ 3000 := by omega
        clear hmid hnn
        go_enter Try.func115, Try.ntmps115
        go_upto_if 140 with (fail)
        go_cut [20, 21] (fun s t W => ∃ lo hi : Nat, s = .int .i64 lo ∧ t = .int .i64 hi ∧ lo ≤ hi ∧ Hid (a ≤ lo ∧ nn ≤ lo + b ∧ hi ≤ m ∧ hi ≤ mid) ∧ Hid (lo = a ∨ nn = lo + b) ∧ Hid (hi = m ∨ hi = mid) ∧ W = w)
        case first =>
          as_aux_lemma =>
            by_cases hmm : mid < m
            · obtain ⟨lo, hlo⟩ : ∃ lo, lo = nn - b := ⟨_, rfl⟩
              have klo : IntKind.i64.wrap ((nn:Int) - (b:Int)) = (lo : Int) := by have := HNN.out; have := HMID.out; rw [i64_eq _ ⟨by omega, by omega⟩]; omega
              have HLO := Lib.hid hlo
              clear hlo
              go_wp2
              go_meet
              case rel => exact ⟨lo, mid, rfl, rfl, by have := HLO.out; have := HNN.out; have := HMID.out; omega, Lib.hid (by have := HLO.out; have := HNN.out; have := HMID.out; omega), Lib.hid (.inr (by have := HLO.out; have := HNN.out; have := HMID.out; omega)), Lib.hid (.inr rfl), rfl⟩
            · go_wp2
              go_meet
              case rel => exact ⟨a, m, rfl, rfl, by omega, Lib.hid (by have := HNN.out; have := HMID.out; omega), Lib.hid (.inl rfl), Lib.hid (.inl rfl), rfl⟩
        case rest =>
        obtain ⟨lo, hi, rfl, rfl, hlh, HLH, HLO, HHI, rfl⟩ := hcut
        obtain ⟨pm, hpm⟩ : ∃ pm, pm = nn - 1 := ⟨_, rfl⟩
        have kp : IntKind.i64.wrap ((nn:Int) - 1) = (pm : Int) := by have := HNN.out; rw [i64_eq _ ⟨by omega, by omega⟩]; omega
        have HPM := Lib.hid hpm
        have hpm3 : pm ≤ 3000 := by omega
        clear hpm
        go_upto_region 33 with (fail)
        go_loopw [20, 21] (fun s t wr => ∃ i j : Nat, s = .int .i64 i ∧ t = .int .i64 j ∧ lo ≤ i ∧ i ≤ j ∧ j ≤ hi ∧ Hid ((j < hi → cmp (gI R (nn - 1 - j - m)) (gI L (j - a)) < 0) ∧ (lo < i → ¬ cmp (gI R (nn - i - m)) (gI L (i - 1 - a)) < 0)) ∧ Hid (Blk wr g (iA zs0) 3) ∧ Hid (Only (fun k => k = g) wc wr)) (fun s t _ => (intOf t).toNat - (intOf s).toNat)
        case atStart => exact ⟨lo, hi, rfl, rfl, Nat.le_refl _, hlh, Nat.le_refl _, ⟨fun h => absurd h (Nat.lt_irrefl _), fun h => absurd h (Nat.lt_irrefl _)⟩, HB.out, Only.refl _ _⟩
        case round =>
          clear HB
          obtain ⟨i, j, rfl, rfl, hi1, hij, hjb, HF, HB, HO⟩ := hrel
          obtain ⟨hh1, hh2, hh3, hh4⟩ := HLH.out
          by_cases hlt : i < j
          · --[
            as_aux_lemma =>
              obtain ⟨h, hh⟩ : ∃ h, h = (i + j) / 2 := ⟨_, rfl⟩
              have h1 : i ≤ h := by omega
              have h2 : h < j := by omega
              obtain ⟨pc, hpc⟩ : ∃ pc, pc = pm - h := ⟨_, rfl⟩
              have hpc2 : pc = nn - 1 - h := by rw [hpc, HPM.out]
              have hpm2 : m ≤ pc ∧ pc < b ∧ h < pm := by have := HNN.out; have := HPM.out; omega
              have kpc : IntKind.i64.wrap ((pm:Int) - (h:Int)) = (pc : Int) := by rw [i64_eq _ ⟨by omega, by omega⟩]; omega
              have c1 := HCR.out wr HB.out pc hpm2.1 hpm2.2.1
              have c0 := HCL.out wr HB.out h (by omega) (by omega)
              have hp1 := HPR.out pc hpm2.1 hpm2.2.1
              have hp0 := HPL.out h (by omega) (by omega)
              obtain ⟨y, hy⟩ : ∃ y, y = gI R (pc - m) := ⟨_, rfl⟩
              obtain ⟨x, hx⟩ : ∃ x, x = gI L (h - a) := ⟨_, rfl⟩
              rw [← hy] at c1 hp1
              rw [← hx] at c0 hp0
              have hq := fun nn => HC.out (wr.drewN nn) (HO.out.tr (Only.of_ext (Ext.of_drewN wr nn))) y x hp1 hp0
              obtain ⟨z, hz⟩ : ∃ z, z = cmp y x := ⟨_, rfl⟩
              rw [← hz] at hq
              have HY := Lib.hid hy
              have HX := Lib.hid hx
              have HZZ := Lib.hid hz
              have HPC := Lib.hid hpc2
              have kh : ((i:Int) + (j:Int)) / 2 = (h : Int) := by omega
              have k3 : (0:Int) ≤ (h:Int) := by omega
              have k4 : (h:Int) < (n:Int) := by omega
              have k5 : (0:Int) ≤ (pc:Int) := by omega
              have k6 : (pc:Int) < (n:Int) := by omega
              have HQ := Lib.hid hq
              clear hq
              clear hy hx hz hp1 hp0 hh hpc hpc2 hpm2
              by_cases hneg : z < 0
              · go_upto_region 35 with (fail)
                go_quiet ((exact Calls.quiet_of (HQ.out _)))
                have hxq : Ext wr (wr.drewN nq) := Ext.of_drewN _ _
                replace HB := Lib.hid (HB.out.ext hxq)
                replace HO := Lib.hid (HO.out.tr (Only.of_ext hxq))
                generalize wr.drewN nq = wq at *
                clear hxq c0 c1 HQ
                have HNF : Hid ((h < hi → cmp (gI R (nn - 1 - h - m)) (gI L (h - a)) < 0) ∧ (lo < i → ¬ cmp (gI R (nn - i - m)) (gI L (i - 1 - a)) < 0)) := ⟨fun _ => by rw [← HPC.out, ← HY.out, ← HX.out, ← HZZ.out]; exact hneg, HF.out.2⟩
                go_wp2
                go_roundw
                case rel => exact ⟨i, h, rfl, rfl, hi1, by omega, by omega, HNF, HB, HO⟩
                case measure => simp [intOf]; omega
              · go_upto_region 35 with (fail)
                go_quiet ((exact Calls.quiet_of (HQ.out _)))
                have hxq : Ext wr (wr.drewN nq) := Ext.of_drewN _ _
                replace HB := Lib.hid (HB.out.ext hxq)
                replace HO := Lib.hid (HO.out.tr (Only.of_ext hxq))
                generalize wr.drewN nq = wq at *
                clear hxq c0 c1 HQ
                have HNF : Hid ((j < hi → cmp (gI R (nn - 1 - j - m)) (gI L (j - a)) < 0) ∧ (lo < h + 1 → ¬ cmp (gI R (nn - (h + 1) - m)) (gI L (h + 1 - 1 - a)) < 0)) := ⟨HF.out.1, fun _ => by rw [Nat.add_sub_cancel, show nn - (h + 1) - m = pc - m by have := HPC.out; omega, ← HY.out, ← HX.out, ← HZZ.out]; exact hneg⟩
                go_wp2
                go_roundw
                case rel => exact ⟨h + 1, j, by go_num, rfl, by omega, by omega, hjb, HNF, HB, HO⟩
                case measure => simp [intOf]; omega
          · obtain rfl : i = j := by omega
            clear hlt
            obtain ⟨e, he⟩ : ∃ e, e = nn - i := ⟨_, rfl⟩
            have heb : m ≤ e ∧ e ≤ b ∧ i ≤ nn ∧ mid ≤ e := by have := HNN.out; omega
            obtain ⟨hme, heb, hin, hmide⟩ := heb
            have ke : IntKind.i64.wrap ((nn:Int) - (i:Int)) = (e : Int) := by rw [i64_eq _ ⟨by omega, by omega⟩]; omega
            obtain ⟨u, hu⟩ : ∃ u, u = i - a := ⟨_, rfl⟩
            obtain ⟨v, hv⟩ : ∃ v, v = e - m := ⟨_, rfl⟩
            have huL : u ≤ L.length := by have := HM.out; omega
            have hvR : v ≤ R.length := by have := HBB.out; omega
            have hb1 : 0 < u → v < R.length → ¬ cmp (gI R v) (gI L (u - 1)) < 0 := fun h1 h2 => by
              have h3 : lo < i := by
                rcases HLO.out with h | h
                · omega
                · have := HBB.out; omega
              have h4 := HF.out.2 h3
              rwa [show nn - i - m = v by omega, show i - 1 - a = u - 1 by omega] at h4
            have hb2 : u < L.length → 0 < v → cmp (gI R (v - 1)) (gI L u) < 0 := fun h1 h2 => by
              have h3 : i < hi := by
                rcases HHI.out with h | h
                · have := HM.out; omega
                · have := HNN.out; omega
              have h4 := HF.out.1 h3
              rwa [show nn - 1 - i - m = v - 1 by omega, show i - a = u by omega] at h4
            have hcl := SY.out.cutL (v := v) o huL hb1
            have hcr := SY.out.cutR (u := u) o hvR hb2
            have hsl := SY.out.left (u := u) (v := v)
            have hsr := SY.out.right (u := u) (v := v)
            have hjn := fun M1 M2 h1 h2 => Mgd.join (u := u) (v := v) SY.out (M1 := M1) (M2 := M2) h1 h2 hcl hcr
            obtain ⟨L1, hL1⟩ : ∃ X, X = L.take u := ⟨_, rfl⟩
            obtain ⟨L2, hL2⟩ : ∃ X, X = L.drop u := ⟨_, rfl⟩
            obtain ⟨R1, hR1⟩ : ∃ X, X = R.take v := ⟨_, rfl⟩
            obtain ⟨R2, hR2⟩ : ∃ X, X = R.drop v := ⟨_, rfl⟩
            have l1 : L1.length = u := by rw [hL1, List.length_take]; omega
            have l2 : L2.length = m - i := by rw [hL2, List.length_drop]; have := HM.out; omega
            have l3 : R1.length = v := by rw [hR1, List.length_take]; omega
            have l4 : R2.length = b - e := by rw [hR2, List.length_drop]; have := HBB.out; omega
            have hz0 : zs0 = pre ++ (L1 ++ (L2 ++ (R1 ++ (R2 ++ post)))) := by
              rw [HZ.out, hL1, hL2, hR1, hR2, ← List.append_assoc (R.take v), List.take_append_drop, ← List.append_assoc (L.take u), List.take_append_drop]
            rw [← hL1, ← hR1] at hsl
            rw [← hL2, ← hR2] at hsr
            rw [← hL1, ← hL2, ← hR1, ← hR2] at hjn
            have hP1 : ∀ x ∈ L1 ++ R1, P x := fun x hx => HPP.out x (by
              rw [hL1, hR1] at hx
              rcases List.mem_append.1 hx with h | h
              · exact List.mem_append_left _ (List.mem_of_mem_take h)
              · exact List.mem_append_right _ (List.mem_of_mem_take h))
            have hP2 : ∀ x ∈ L2 ++ R2, P x := fun x hx => HPP.out x (by
              rw [hL2, hR2] at hx
              rcases List.mem_append.1 hx with h | h
              · exact List.mem_append_left _ (List.mem_of_mem_drop h)
              · exact List.mem_append_right _ (List.mem_of_mem_drop h))
            have hNL : (pre ++ (L1 ++ (R1 ++ (L2 ++ (R2 ++ post))))).length = n := by
              have h1 := HN.out
              rw [hz0] at h1
              simp only [List.length_append] at h1 ⊢
              omega
            have hvi : v = mid - i := by have := HNN.out; omega
            have hui : i = a + u := by omega
            have hmv : mid = i + v := by omega
            have heL : e = mid + (m - i) := by have := HNN.out; omega
            have hbe : b = e + (b - e) := by omega
            have hem : e = m + v := by omega
            have him : m = i + (m - i) := by omega
            have hlk1 : u + v ≤ k := by have := HKK.out; have := HM.out; have := HBB.out; omega
            have hlk2 : (m - i) + (b - e) ≤ k := by have := HKK.out; have := HM.out; have := HBB.out; omega
            have HL1L := Lib.hid l1
            have HL2L := Lib.hid l2
            have HR1L := Lib.hid l3
            have HR2L := Lib.hid l4
            have HUI := Lib.hid hui
            have HMV := Lib.hid hmv
            have HEL := Lib.hid heL
            have HBE := Lib.hid hbe
            have HEM := Lib.hid hem
            have HIM := Lib.hid him
            have HLK1 := Lib.hid hlk1
            have HLK2 := Lib.hid hlk2
            have him2 : i ≤ m := by omega
            have SL := Lib.hid hsl
            have SR := Lib.hid hsr
            have JN := Lib.hid hjn
            have HP1 := Lib.hid hP1
            have HP2 := Lib.hid hP2
            have HNL := Lib.hid hNL
            have HZ0 := Lib.hid hz0
            clear hsl hsr hjn hP1 hP2 hNL hz0
            clear he hu hv hb1 hb2 hcl hcr hL1 hL2 hR1 hR2 l1 l2 l3 l4 hvi hui hmv heL hbe hem him hlk1 hlk2 huL hvR HCL HCR HPL HPR SY HF HLL HLR HLO HHI
            go_upto_region 39 with (fail)
            obtain ⟨w5, rfl⟩ : ∃ W, W = wr := ⟨wr, rfl⟩
            obtain ⟨w6, rfl⟩ : ∃ W, W = wc := ⟨wc, rfl⟩
            obtain ⟨tb, htb⟩ : ∃ b, b = decide (i < m ∧ m < e) := ⟨_, rfl⟩
            have HTB := Lib.hid htb
            clear htb
            go_cut [185] (fun v W => v = .bool tb ∧ W = w5)
            case first =>
              as_aux_lemma =>
                by_cases t1 : i < m
                · by_cases t2 : m < e
                  · have ht : tb = true := by rw [HTB.out, decide_eq_true ⟨t1, t2⟩]
                    subst ht
                    go_wp2
                    go_meet
                    case rel => exact ⟨rfl, rfl⟩
                  · have ht : tb = false := by rw [HTB.out]; exact decide_eq_false (fun h => t2 h.2)
                    subst ht
                    go_wp2
                    go_meet
                    case rel => exact ⟨rfl, rfl⟩
                · have ht : tb = false := by rw [HTB.out]; exact decide_eq_false (fun h => t1 h.1)
                  subst ht
                  go_wp2
                  go_meet
                  case rel => exact ⟨rfl, rfl⟩
            case rest =>
            obtain ⟨rfl, hwc⟩ := hcut
            subst hwc
            obtain ⟨w5, rfl⟩ : ∃ W, W = wc := ⟨wc, rfl⟩
            go_upto_if 185 with (fail)
            go_cut [] (fun W => Hid (Blk W g (iA (pre ++ (L1 ++ (R1 ++ (L2 ++ (R2 ++ post)))))) 3) ∧ Hid (Only (fun k => k = g) w6 W))
            case first =>
              as_aux_lemma =>
                rename_i hR hK
                cases tb
                · have HB2 : Hid (Blk w5 g (iA (pre ++ (L1 ++ (R1 ++ (L2 ++ (R2 ++ post)))))) 3) := by
                    have h0 := of_decide_eq_false HTB.out.symm
                    have h := HB.out
                    rw [HZ0.out] at h
                    by_cases t1 : i < m
                    · have hR0 : R1 = [] := List.eq_nil_of_length_eq_zero (by rw [HR1L.out]; have := HEM.out; omega)
                      rw [hR0] at h; rw [hR0]; exact Lib.hid h
                    · have hL0 : L2 = [] := List.eq_nil_of_length_eq_zero (by rw [HL2L.out]; omega)
                      rw [hL0] at h; rw [hL0]; exact Lib.hid h
                  refine wp_cond_false rfl ?_
                  refine wp_skip ?_
                  refine hK _ _ ?_
                  go_meet
                  case rel => exact ⟨HB2, HO⟩
                · obtain ⟨t1, t2⟩ := of_decide_eq_true HTB.out.symm
                  have htu := fun W (h : Blk W g (iA zs0) 3) => turn_any g (pre ++ L1) L2 R1 (R2 ++ post) n i m e (.func (.func 56) #[] caps) W (by rw [HZ0.out] at h; rw [List.append_assoc]; exact h) (by have := HN.out; rw [HZ0.out] at this; rw [List.append_assoc]; exact this) (by omega) (by rw [List.length_append, HL1L.out, ← HA.out]; exact HUI.out) (by rw [HL2L.out]; exact HIM.out) (by rw [HR1L.out]; exact HEM.out) (by rw [HL2L.out]; omega) (by rw [HR1L.out]; have := HEM.out; omega)
                  rw [List.append_assoc pre] at htu
                  have HTU := Lib.hid htu
                  clear htu
                  refine wp_cond_true rfl ?_
                  go_wp2_with (
                    go_at_call 120
                    refine (HTU.out _ HB.out).mono ?_
                    rintro e9 w9 ⟨rfl, hb9, ho9⟩
                    have ho8 := HO.out.tr ho9
                    clear HB HO ho9
                    have HB := Lib.hid hb9
                    have HO := Lib.hid ho8
                    clear hb9 ho8)
                  go_meet
                  case rel => exact ⟨HB, HO⟩
            case rest =>
            clear HB HO
            obtain ⟨HB, HO⟩ := hcut
            go_upto_region 41 with (fail)
            obtain ⟨w7, rfl⟩ : ∃ W, W = wc := ⟨wc, rfl⟩
            obtain ⟨tc, htc⟩ : ∃ b, b = decide (a < i ∧ i < mid) := ⟨_, rfl⟩
            have HTC := Lib.hid htc
            clear htc
            go_cut [199] (fun v W => v = .bool tc ∧ W = w7)
            case first =>
              as_aux_lemma =>
                by_cases t1 : a < i
                · by_cases t2 : i < mid
                  · have ht : tc = true := by rw [HTC.out, decide_eq_true ⟨t1, t2⟩]
                    subst ht
                    go_wp2
                    go_meet
                    case rel => exact ⟨rfl, rfl⟩
                  · have ht : tc = false := by rw [HTC.out]; exact decide_eq_false (fun h => t2 h.2)
                    subst ht
                    go_wp2
                    go_meet
                    case rel => exact ⟨rfl, rfl⟩
                · have ht : tc = false := by rw [HTC.out]; exact decide_eq_false (fun h => t1 h.1)
                  subst ht
                  go_wp2
                  go_meet
                  case rel => exact ⟨rfl, rfl⟩
            case rest =>
            obtain ⟨rfl, hwc⟩ := hcut
            subst hwc
            obtain ⟨w7, rfl⟩ : ∃ W, W = wc := ⟨wc, rfl⟩
            go_upto_if 199 with (fail)
            go_cut [] (fun W => ∃ M1, Hid (Mgd lt L1 R1 M1) ∧ Hid (Blk W g (iA (pre ++ (M1 ++ (L2 ++ (R2 ++ post))))) 3) ∧ Hid (Only (fun k => k = g) w6 W))
            case first =>
              as_aux_lemma =>
                rename_i hR hK
                cases tc
                · have hm1 := Mgd.plain SL.out (by
                    have h0 := of_decide_eq_false HTC.out.symm
                    rw [HL1L.out, HR1L.out]
                    have := HUI.out
                    have := HMV.out
                    omega)
                  have HB2 : Hid (Blk w7 g (iA (pre ++ ((L1 ++ R1) ++ (L2 ++ (R2 ++ post))))) 3) := by have h := HB.out; rw [← List.append_assoc L1] at h; exact Lib.hid h
                  have HM1 := Lib.hid hm1
                  clear hm1
                  refine wp_cond_false rfl ?_
                  refine wp_skip ?_
                  refine hK _ _ ?_
                  go_meet
                  case rel => exact ⟨_, HM1, HB2, HO⟩
                · obtain ⟨t1, t2⟩ := of_decide_eq_true HTC.out.symm
                  have hih := fun W (h : Blk W g (iA (pre ++ (L1 ++ (R1 ++ (L2 ++ (R2 ++ post)))))) 3) (hc : CmpOk W g caps cmp P) => IH.out pre L1 R1 (L2 ++ (R2 ++ post)) a i mid W (by rw [HL1L.out, HR1L.out]; exact HLK1.out) HNL.out HA.out (by rw [HL1L.out]; exact HUI.out) (by rw [HR1L.out]; exact HMV.out) (by rw [HL1L.out]; have := HUI.out; omega) (by rw [HR1L.out]; have := HMV.out; omega) SL.out HP1.out h hc
                  have HIH := Lib.hid hih
                  clear hih
                  clear IH
                  refine wp_cond_true rfl ?_
                  go_wp2_with (
                    go_at_call 115
                    refine (HIH.out _ HB.out (HC.out.only HO.out)).mono ?_
                    rintro e9 w9 ⟨rfl, ⟨M1, hm1, hb9⟩, ho9⟩
                    have ho8 := HO.out.tr ho9
                    clear HB HO ho9
                    have HB := Lib.hid hb9
                    have HO := Lib.hid ho8
                    have HM1 := Lib.hid hm1
                    clear hb9 ho8 hm1)
                  go_meet
                  case rel => exact ⟨M1, HM1, HB, HO⟩
            case rest =>
            clear HB HO
            obtain ⟨M1, HM1, HB, HO⟩ := hcut
            have hl1 := HM1.out.len
            rw [HL1L.out, HR1L.out] at hl1
            have hzz : Blk wc g (iA ((pre ++ M1) ++ (L2 ++ (R2 ++ post)))) 3 := by rw [List.append_assoc]; exact HB.out
            have hnl2 : ((pre ++ M1) ++ (L2 ++ (R2 ++ post))).length = n := by
              have h1 := HNL.out
              simp only [List.length_append, HL1L.out, HR1L.out] at h1 ⊢
              omega
            have hpm1 : mid = (pre ++ M1).length := by rw [List.length_append, hl1, ← HA.out]; have := HUI.out; have := HMV.out; omega
            clear HB
            have HB := Lib.hid hzz
            have HNL2 := Lib.hid hnl2
            have HPM1 := Lib.hid hpm1
            clear hzz hnl2 hpm1
            clear hl1
            by_cases t1 : mid < e
            · by_cases t2 : e < b
              · have hih := fun W (h : Blk W g (iA ((pre ++ M1) ++ (L2 ++ (R2 ++ post)))) 3) (hc : CmpOk W g caps cmp P) => IH.out (pre ++ M1) L2 R2 post mid e b W (by rw [HL2L.out, HR2L.out]; exact HLK2.out) HNL2.out HPM1.out (by rw [HL2L.out]; exact HEL.out) (by rw [HR2L.out]; exact HBE.out) (by rw [HL2L.out]; have := HEL.out; omega) (by rw [HR2L.out]; omega) SR.out HP2.out h hc
                have HIH := Lib.hid hih
                clear hih
                clear IH
                go_wp2_with (
                  go_at_call 115
                  refine (HIH.out _ HB.out (HC.out.only HO.out)).mono ?_
                  rintro e9 w9 ⟨rfl, ⟨M2, hm2, hb9⟩, ho9⟩
                  have ho8 := HO.out.tr ho9
                  clear HB HO ho9
                  have HB := Lib.hid hb9
                  have HO := Lib.hid ho8
                  have HM2 := Lib.hid hm2
                  clear hb9 ho8 hm2)
                go_end0
                exact HP.out _ _ ⟨rfl, ⟨M1 ++ M2, JN.out M1 M2 HM1.out HM2.out, by have h := HB.out; rw [List.append_assoc] at h; rw [List.append_assoc]; exact h⟩, HO.out⟩
              · have hm2 := Mgd.plain SR.out (.inr (by rw [HR2L.out]; omega))
                have HM2 := Lib.hid hm2
                clear hm2
                go_wp2
                go_end0
                exact HP.out _ _ ⟨rfl, ⟨M1 ++ (L2 ++ R2), JN.out M1 _ HM1.out HM2.out, by have h := HB.out; rw [List.append_assoc, ← List.append_assoc L2] at h; rw [List.append_assoc]; exact h⟩, HO.out⟩
            · have hm2 := Mgd.plain SR.out (.inl (by rw [HL2L.out]; have := HEL.out; omega))
              have HM2 := Lib.hid hm2
              clear hm2
              go_wp2
              go_end0
              exact HP.out _ _ ⟨rfl, ⟨M1 ++ (L2 ++ R2), JN.out M1 _ HM1.out HM2.out, by have h := HB.out; rw [List.append_assoc, ← List.append_assoc L2] at h; rw [List.append_assoc]; exact h⟩, HO.out⟩
end Go.Proofs.Ytekplfbfkfiabaa
