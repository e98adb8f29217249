/- marks.find. -/
import Derived.Test.YtafnadaahnkcmaaFind
import Derived.Test.YtafnadaahnkcmaaQueue
import Derived.RangeFuncBox
namespace Go.Proofs.Ytafnadaahnkcmaa
open Go.RowKit
set_option linter.unusedVariables false

theorem fitL_take (pat seen : List Int) (win shift : Int) (k : Nat) (h : k < pat.length) : (fitL pat seen win shift).take (k + 1) = (fitL pat seen win shift).take k ++ [fnd seen (pat[k] + shift - win) (pat[k] + shift - win + 2 * win)] := by
  rw [List.take_succ_eq_append_getElem (by simp [fitL, h])]
  simp only [fitL, List.getElem_map]
  have : pat[k] + shift - win + 2 * win = pat[k] + shift + win := by omega
  rw [this]
theorem cntL_snoc (l : List Int) (x : Int) : cntL (l ++ [x]) = cntL l + if x = 1000000000 then 0 else 1 := by
  unfold cntL
  rw [List.filter_append]
  by_cases h : x = 1000000000 <;> simp [h]
theorem cntL_bd (l : List Int) : 0 ≤ cntL l ∧ cntL l ≤ l.length := by
  unfold cntL; have := List.length_filter_le (fun x => x != 1000000000) l; omega

theorem all3 {a b c : Value} (ha : a.oneCell' = true) (hb : b.oneCell' = true) (hc : c.oneCell' = true) : #[a, b, c].all (·.oneCell') = true := by simp [ha, hb, hc]
theorem owns_oneCell {w : World} {base : Nat} {e : TypeId} {size : Nat} {v : Value} {n : Nat} {xs : List Value} (h : w.ownsRow base e size v n xs) : v.oneCell' = true := by
  rcases h.2 with ⟨rfl, _⟩ | ⟨g, cap, cur, rfl, _⟩ <;> rfl

def FindPost (w : World) (pat seen : List Int) (win shift : Int) (e : Ending) (w' : World) : Prop :=
  ∃ v, e = .returned (.agg #[.int .i64 shift, .int .i64 (cntL (fitL pat seen win shift)), v]) ∧ w'.ownsRow w.heap.size 3 1 v pat.length ((fitL pat seen win shift).map (.int .i64)) ∧ Ext w w'

/-- find's memory: the boxes of its arguments, the fit that it fills, with the row of what was found, the block of its result. -/
structure FiSt (w : World) (sb mb fb rb : Nat) (vs vp : Value) (win shift c : Int) (v : Value) (n : Nat) (xs : List Value) (wr : World) : Prop where
  s : wr.heap[sb]? = some (.cells #[vs] 22 (0, 0))
  m : wr.heap[mb]? = some (.cells #[vp, .int .i64 win] 85 (0, 0))
  f : wr.heap[fb]? = some (.cells #[.int .i64 shift, .int .i64 c, v] 26 (0, 0))
  r : ∃ cs, wr.heap[rb]? = some (.cells cs 26 (0, 0)) ∧ cs.size = 3
  own : wr.ownsRow w.heap.size 3 1 v n xs
  ext : Ext w wr
  vf : v.ownBlock ≠ some fb
  vm : v.ownBlock ≠ some mb
  vs_ : v.ownBlock ≠ some sb
  vr : v.ownBlock ≠ some rb
  lf : w.heap.size ≤ fb
  lr : w.heap.size ≤ rb
  fm : fb ≠ mb
  fs : fb ≠ sb
  fr : fb ≠ rb

section
variable {w wr w1 w2 w3 : World} {sb mb fb rb : Nat} {vs vp : Value} {win shift c c' : Int} {v v' : Value} {n : Nat} {xs : List Value} {x : Value}
theorem FiSt.drewN (h : FiSt w sb mb fb rb vs vp win shift c v n xs wr) (k : Nat) : FiSt w sb mb fb rb vs vp win shift c v n xs (wr.drewN k) :=
  ⟨h.s, h.m, h.f, h.r, h.own, h.ext.drewN k, h.vf, h.vm, h.vs_, h.vr, h.lf, h.lr, h.fm, h.fs, h.fr⟩
theorem FiSt.count (h : FiSt w sb mb fb rb vs vp win shift c v n xs wr) (hf : w1.heap[fb]? = some (.cells #[.int .i64 shift, .int .i64 c', v] 26 (0, 0))) (ho : Only (fun k => k = fb) wr w1) :
    FiSt w sb mb fb rb vs vp win shift c' v n xs w1 := by
  obtain ⟨cs, hr, hs⟩ := h.r
  exact ⟨ho.heap h.s (fun (e : sb = fb) => h.fs e.symm), ho.heap h.m (fun (e : mb = fb) => h.fm e.symm), hf, ⟨cs, ho.heap hr (fun (e : rb = fb) => h.fr e.symm), hs⟩,
    owns_only h.own ho (fun k hk (e : k = fb) => h.vf (e ▸ hk)), h.ext.then_only ho (fun k (e : k = fb) => e ▸ h.lf), h.vf, h.vm, h.vs_, h.vr, h.lf, h.lr, h.fm, h.fs, h.fr⟩
theorem FiSt.grown (h : FiSt w sb mb fb rb vs vp win shift c v n xs wr) (he : Ext wr w1) (hg : w1.grownBy w2 v.ownBlock) : w2.heap[fb]? = some (.cells #[.int .i64 shift, .int .i64 c, v] 26 (0, 0)) :=
  ((Only.of_ext he).tr (only_grown hg)).heap h.f h.vf
theorem FiSt.appended (h : FiSt w sb mb fb rb vs vp win shift c v n xs wr) (he : Ext wr w1) (ho' : w2.ownsRow w.heap.size 3 1 v' (n + 1) (xs ++ [x])) (hg : w1.grownBy w2 v.ownBlock) (hfr : FreshOr w1 v v')
    (hf : w3.heap[fb]? = some (.cells #[.int .i64 shift, .int .i64 c, v'] 26 (0, 0))) (ho : Only (fun k => k = fb) w2 w3) :
    FiSt w sb mb fb rb vs vp win shift c v' (n + 1) (xs ++ [x]) w3 := by
  obtain ⟨cs, hr, hs⟩ := h.r
  have hon : Only (fun k => v.ownBlock = some k) wr w2 := (Only.of_ext he).tr (only_grown hg)
  have hsz := he.size
  have key : ∀ b, v.ownBlock ≠ some b → b < wr.heap.size → v'.ownBlock ≠ some b := fun b hb hlt => by
    rcases hfr with hfr | ⟨g, hg, hle⟩
    · rw [hfr]; exact hb
    · rw [hg]; intro hk; cases hk; omega
  have kf := key fb h.vf (blk_lt h.f)
  exact ⟨ho.heap (hon.heap h.s h.vs_) (fun (e : sb = fb) => h.fs e.symm), ho.heap (hon.heap h.m h.vm) (fun (e : mb = fb) => h.fm e.symm), hf, ⟨cs, ho.heap (hon.heap hr h.vr) (fun (e : rb = fb) => h.fr e.symm), hs⟩,
    owns_only ho' ho (fun k hk (e : k = fb) => kf (e ▸ hk)), (h.ext.then_only hon (fun k hk => (h.own.lt k hk).1)).then_only ho (fun k (e : k = fb) => e ▸ h.lf),
    kf, key mb h.vm (blk_lt h.m), key sb h.vs_ (blk_lt h.s), key rb h.vr (blk_lt hr), h.lf, h.lr, h.fm, h.fs, h.fr⟩
end

/-- What holds at the head of find's round. -/
def FiInv (w : World) (sb mb fb rb : Nat) (vs vp : Value) (pat seen : List Int) (win shift : Int) (k : Nat) (wr : World) : Prop :=
  ∃ v, FiSt w sb mb fb rb vs vp win shift (cntL ((fitL pat seen win shift).take k)) v k (((fitL pat seen win shift).take k).map (.int .i64)) wr

set_option maxRecDepth 100000 in
set_option maxHeartbeats 2000000 in
theorem find_any (pat seen : List Int) (ap as_ : Option Addr) (cp cs : Nat) (win shift : Int) (w : World) (hp : Ints w (.slice ap pat.length cp) pat) (hs : Ints w (.slice as_ seen.length cs) seen)
    (hinc : Inc seen) (hlen : seen.length ≤ 1000000) (hplen : pat.length ≤ 1000) (hpb : ∀ x ∈ pat, 0 ≤ x ∧ x ≤ 100000) (hsh : -2000 ≤ shift ∧ shift ≤ 2000) (hw : 0 ≤ win ∧ win ≤ 5000) :
    Calls Try.prog 49 #[.agg #[.slice ap pat.length cp, .int .i64 win], .int .i64 shift, .slice as_ seen.length cs] w (FindPost w pat seen win shift) := by
  obtain ⟨s1, s2⟩ := hsh
  obtain ⟨v1, v2⟩ := hw
  have HP := Lib.hid hp
  have HS := Lib.hid hs
  have HI := Lib.hid hinc
  have HPB := Lib.hid hpb
  clear hp hs hinc hpb
  go_enter Try.func49, Try.ntmps49
  go_wp2_with (first
    | (with_reducible refine wpList_box (v := .agg #[.slice ap pat.length cp, .int .i64 win]) rfl rfl rfl ?_
       rintro mb w1 ⟨hb1, hx1, hl1⟩
       have HB1 := Lib.hid hb1
       have HX1 := Lib.hid hx1
       clear hb1 hx1)
    | (with_reducible refine wpList_box (v := .slice as_ seen.length cs) rfl rfl rfl ?_
       rintro sb w2 ⟨hb2, hx2, hl2⟩
       have HB2 := Lib.hid hb2
       have HM2 := Lib.hid (hx2.blk HB1.out)
       have HX2 := Lib.hid (HX1.out.tr hx2)
       have L2 := Lib.hid (blk_lt HB1.out)
       clear hb2 hx2 HB1 HX1)
    | (with_reducible refine wpList_alloc (o := ⟨some 6, _, _, _, _, _⟩) rfl rfl Try.zeroValue26 ?_
       rintro rb w3 ⟨hb3, hx3, hl3⟩
       have HB3 := Lib.hid hb3
       have HM3 := Lib.hid (hx3.blk HM2.out)
       have HS3 := Lib.hid (hx3.blk HB2.out)
       have HX3 := Lib.hid (HX2.out.tr hx3)
       have L3 := Lib.hid (blk_lt HB2.out)
       clear hb3 hx3 HB2 HM2 HX2)
    | (with_reducible refine wpList_alloc (o := ⟨some 7, _, _, _, _, _⟩) rfl rfl Try.zeroValue26 ?_
       rintro fb w4 ⟨hb4, hx4, hl4⟩
       have HB4 := Lib.hid hb4
       have HM4 := Lib.hid (hx4.blk HM3.out)
       have HS4 := Lib.hid (hx4.blk HS3.out)
       have HR4 := Lib.hid (hx4.blk HB3.out)
       have HX4 := Lib.hid (HX3.out.tr hx4)
       have L4 := Lib.hid (blk_lt HB3.out)
       clear hb4 hx4 HB3 HM3 HS3 HX3)
    | (with_reducible refine wpList_storeB (b := fb) (cells := #[.int .i64 shift, .int .i64 0, .slice none 0 0]) rfl rfl ?_ ?_ HB4.out ?_ ?_ ?_ ?_
       · rfl
       · rfl
       · kernel_rfl
       · rfl
       · simp [Value.oneCell']
       rintro w5 hb5 ho5
       have hsz := HX4.out.size
       have I0 : Hid (FiInv w sb mb fb rb (.slice as_ seen.length cs) (.slice ap pat.length cp) pat seen win shift 0 w5) := by
         have l2 := L2.out
         have l3 := L3.out
         have l4 := L4.out
         have l5 := HX4.out.size
         refine ⟨.slice none 0 0, ⟨ho5.heap HS4.out (fun (h : sb = fb) => by omega), ho5.heap HM4.out (fun (h : mb = fb) => by omega), hb5, ⟨_, ho5.heap HR4.out (fun (h : rb = fb) => by omega), rfl⟩,
           World.ownsRow_nil _ _ _ _, HX4.out.then_only ho5 (fun k (hk : k = fb) => by omega), by simp [Value.ownBlock], by simp [Value.ownBlock], by simp [Value.ownBlock], by simp [Value.ownBlock], by omega, by omega, by omega, by omega, by omega⟩⟩
       have CM : ∀ i, w5.cell? ⟨mb, i, none⟩ = (#[Value.slice ap pat.length cp, .int .i64 win] : Array Value)[i]? := blk_cell (ho5.heap HM4.out (fun (h : mb = fb) => by have := L2.out; have := L3.out; have := L4.out; omega))
       clear hb5 ho5 HB4 HM4 HS4 HR4 HX4))
  clear CM
  go_loopw [18] (fun t wr => ∃ k : Nat, k ≤ pat.length ∧ t = .int .i64 k ∧ FiInv w sb mb fb rb (.slice as_ seen.length cs) (.slice ap pat.length cp) pat seen win shift k wr) (fun t _ => pat.length - (intOf t).toNat)
  case atStart => exact ⟨0, Nat.zero_le _, rfl, I0.out⟩
  case round =>
    obtain ⟨k, hk, rfl, v, hst⟩ := hrel
    by_cases hlt : k < pat.length
    · have HST := Lib.hid hst
      obtain ⟨b1, o1, rfl, hc1⟩ := HP.out.cells (by omega)
      have c1 := hst.ext.cellSome (hc1 k hlt)
      have cM : ∀ i, wr.cell? ⟨mb, i, none⟩ = (#[Value.slice (some ⟨b1, o1, none⟩) pat.length cp, .int .i64 win] : Array Value)[i]? := blk_cell hst.m
      obtain ⟨p1, p2⟩ := HPB.out pat[k] (List.getElem_mem hlt)
      have j1 : (0:Int) ≤ (k:Int) := by omega
      have j2 : (k:Int) < (pat.length:Int) := by omega
      have HC := Lib.hid (findC_any seen as_ cs sb mb (pat[k] + shift - win) win wr (by rw [blk_cell hst.s]; rfl) (by rw [blk_cell hst.m]; rfl) (HS.out.ext hst.ext) HI.out hlen (by omega) ⟨v1, v2⟩)
      have HT := Lib.hid (fitL_take pat seen win shift k hlt)
      clear hc1 hst
      generalize hx : fnd seen (pat[k] + shift - win) (pat[k] + shift - win + 2 * win) = x at HC HT
      clear hx
      have HCN := Lib.hid (cntL_snoc ((fitL pat seen win shift).take k) x)
      obtain ⟨n1, n2⟩ := cntL_bd ((fitL pat seen win shift).take k)
      have n3 : (((fitL pat seen win shift).take k).length : Int) ≤ 1000 := by simp [fitL]; omega
      have cF : ∀ i, wr.cell? ⟨fb, i, none⟩ = (#[Value.int .i64 shift, .int .i64 (cntL ((fitL pat seen win shift).take k)), v] : Array Value)[i]? := blk_cell HST.out.f
      by_cases hlost : x = 1000000000
      · have hl1 : (x != 1000000000) = false := by simp [hlost]
        have HL := Lib.hid hlost
        clear hlost
        go_wp2_with (first
          | (go_at_call 56; refine HC.out.mono ?_; rintro e wq ⟨rfl, nq, rfl⟩
             have HS1 := Lib.hid (HST.out.drewN nq))
          | (
            at_builtin
            refine wpList_app tInts rfl rfl (v := v) rfl (HS1.out.own.alloc _) rfl (Src.lit _ [.int .i64 x] 1 1 rfl 3 1) (by simp [Value.oneCell']) (by omega) (Nat.le_trans HS1.out.ext.size (by simp)) ?_
            rintro v' w10 h1 h2 h3
            obtain ⟨g', cap', rfl⟩ := ownsRow_succ h1
            have HF10 := Lib.hid (HS1.out.grown (ext_lit _ _ _) h2)
            have HA := fun (w11 : World) hf ho => Lib.hid (HS1.out.appended (w3 := w11) (ext_lit _ _ _) h1 h2 h3 hf ho)
            clear h1 h2 h3)
          | (
            with_reducible refine wpList_setB (b := fb) (i := 2) (v := .slice (some ⟨g', 0, none⟩) (k + 1) cap') rfl rfl ?_ ?_ HF10.out ?_ ?_ rfl rfl ?_
            · rfl
            · rfl
            · simp
            · kernel_rfl
            rintro w11 hf11 ho11
            have HN := HA w11 hf11 ho11
            clear hf11 ho11))
        go_roundw
        case rel => exact ⟨k + 1, by omega, by go_num, _, by rw [HT.out, HCN.out, if_pos HL.out, Int.add_zero, List.map_append]; exact HN.out⟩
        case measure => simp [intOf]; omega
      · have hl1 : (x != 1000000000) = true := by simp [hlost]
        have HL := Lib.hid hlost
        clear hlost
        go_wp2_with (first
          | (go_at_call 56; refine HC.out.mono ?_; rintro e wq ⟨rfl, nq, rfl⟩
             have HS0 := Lib.hid (HST.out.drewN nq))
          | (
            with_reducible refine wpList_setB (b := fb) (i := 1) (v := .int .i64 (cntL ((fitL pat seen win shift).take k) + 1)) rfl rfl ?_ ?_ HS0.out.f ?_ ?_ rfl rfl ?_
            · rfl
            · rfl
            · simp
            · kernel_rfl
            rintro w9 hf9 ho9
            have HS1 := Lib.hid (HS0.out.count hf9 ho9)
            have cF9 : ∀ i, w9.cell? ⟨fb, i, none⟩ = (#[Value.int .i64 shift, .int .i64 (cntL ((fitL pat seen win shift).take k) + 1), v] : Array Value)[i]? := blk_cell HS1.out.f
            clear hf9 ho9)
          | (
            at_builtin
            refine wpList_app tInts rfl rfl (v := v) rfl (HS1.out.own.alloc _) rfl (Src.lit _ [.int .i64 x] 1 1 rfl 3 1) (by simp [Value.oneCell']) (by omega) (Nat.le_trans HS1.out.ext.size (by simp)) ?_
            rintro v' w10 h1 h2 h3
            obtain ⟨g', cap', rfl⟩ := ownsRow_succ h1
            have HF10 := Lib.hid (HS1.out.grown (ext_lit _ _ _) h2)
            have HA := fun (w11 : World) hf ho => Lib.hid (HS1.out.appended (w3 := w11) (ext_lit _ _ _) h1 h2 h3 hf ho)
            clear h1 h2 h3)
          | (
            with_reducible refine wpList_setB (b := fb) (i := 2) (v := .slice (some ⟨g', 0, none⟩) (k + 1) cap') rfl rfl ?_ ?_ HF10.out ?_ ?_ rfl rfl ?_
            · rfl
            · rfl
            · simp
            · kernel_rfl
            rintro w11 hf11 ho11
            have HN := HA w11 hf11 ho11
            clear hf11 ho11))
        go_roundw
        case rel => exact ⟨k + 1, by omega, by go_num, _, by rw [HT.out, HCN.out, if_neg HL.out, List.map_append]; exact HN.out⟩
        case measure => simp [intOf]; omega
    · obtain ⟨csr, hr, hrs⟩ := hst.r
      have HST := Lib.hid hst
      have cF : ∀ i, wr.cell? ⟨fb, i, none⟩ = (#[Value.int .i64 shift, .int .i64 (cntL ((fitL pat seen win shift).take k)), v] : Array Value)[i]? := blk_cell hst.f
      have HR := Lib.hid hr
      have h1c : v.oneCell' = true := owns_oneCell hst.own
      have hkk : k = pat.length := by omega
      have ht : (fitL pat seen win shift).take k = fitL pat seen win shift := List.take_of_length_le (by simp [fitL]; omega)
      have HKK := Lib.hid hkk
      have HTT := Lib.hid ht
      clear hst hr hkk ht
      go_wp2_with (
        with_reducible refine wpList_storeB (b := rb) (cells := #[.int .i64 shift, .int .i64 (cntL ((fitL pat seen win shift).take k)), v]) rfl rfl ?_ ?_ HR.out ?_ ?_ ?_ ?_
        · rfl
        · rfl
        · kernel_rfl
        · simp [hrs]
        · exact all3 rfl rfl h1c
        rintro w6 hf6 ho6
        have cR : ∀ i, w6.cell? ⟨rb, i, none⟩ = (#[Value.int .i64 shift, .int .i64 (cntL ((fitL pat seen win shift).take k)), v] : Array Value)[i]? := blk_cell hf6
        have HO := Lib.hid ho6
        clear hf6 ho6)
      refine bodyPost_ret (v := .agg #[.int .i64 shift, .int .i64 (cntL ((fitL pat seen win shift).take k)), v]) (by simp [results, Try.results49, go_sem, cR]) rfl ?_
      have ho := HO.out
      have hst := HST.out
      rw [HTT.out] at hst ⊢
      have hkk := HKK.out
      subst hkk
      exact ⟨v, rfl, owns_only hst.own ho (fun k hk (e : k = rb) => hst.vr (e ▸ hk)), hst.ext.then_only ho (fun k (e : k = rb) => e ▸ hst.lr)⟩
end Go.Proofs.Ytafnadaahnkcmaa
