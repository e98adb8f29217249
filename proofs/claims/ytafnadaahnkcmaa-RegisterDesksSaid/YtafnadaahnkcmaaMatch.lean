/- marks.match. -/
import Derived.Test.YtafnadaahnkcmaaShifts
import Derived.Test.YtafnadaahnkcmaaIn
import Derived.Deep.Cut
namespace Go.Proofs.Ytafnadaahnkcmaa
open Go.RowKit Go.Shelf
set_option linter.unusedVariables false
attribute [local go_sem] Oper.semAt_some

/-- The best of some shifts, the first that is best, with what it counts. -/
def bestS (f : Int → Int) (l : List Int) : Int × Int := l.foldl (fun b s => if b.2 < f s then (s, f s) else b) (0, -1)
theorem bestS_nil (f : Int → Int) : bestS f [] = (0, -1) := rfl
theorem bestS_snoc (f : Int → Int) (l : List Int) (s : Int) : bestS f (l ++ [s]) = if (bestS f l).2 < f s then (s, f s) else bestS f l := by
  unfold bestS; rw [List.foldl_append]; rfl
def SeenOk (seen : List Int) : Prop := ∀ j (h : j < seen.length), -100000 ≤ seen[j] ∧ seen[j] ≤ 200000 ∧ (∀ h0 : 0 < j, seen[j-1]'(by omega) < seen[j])

def cntF (pat seen : List Int) (win s : Int) : Int := cntL (fitL pat seen win s)

def MatchPost (w : World) (pat seen : List Int) (win : Int) (e : Ending) (w' : World) : Prop :=
  ((∃ er : Int, (er = 2 ∧ 40 < seen.length ∨ er = 11 ∧ seen.length ≤ 40 ∧ ¬ SeenOk seen) ∧ e = .returned (.tuple #[.agg #[.int .i64 0, .int .i64 0, .slice none 0 0], .int .i64 er])) ∨
   (seen.length ≤ 40 ∧ SeenOk seen ∧ ∃ v, e = .returned (.tuple #[.agg #[.int .i64 (bestS (cntF pat seen win) (shs 2001)).1, .int .i64 (bestS (cntF pat seen win) (shs 2001)).2, v], .int .i64 0]) ∧
     w'.ownsRow w.heap.size 3 1 v pat.length ((fitL pat seen win (bestS (cntF pat seen win) (shs 2001)).1).map (.int .i64)))) ∧ Ext w w'

theorem SeenOk.inc {seen : List Int} (h : SeenOk seen) : Inc seen := by
  have step : ∀ n i (hj : i + n + 1 < seen.length), seen[i]'(by omega) < seen[i + n + 1] := by
    intro n
    induction n with
    | zero => intro i hj; have := (h (i + 1) (by omega)).2.2 (by omega); simpa using this
    | succ n ih =>
      intro i hj
      have h1 := ih i (by omega)
      have h2 := (h (i + (n + 1) + 1) (by omega)).2.2 (by omega)
      have h3 : seen[i + (n + 1) + 1 - 1]'(by omega) = seen[i + n + 1]'(by omega) := by congr 1
      rw [h3] at h2
      omega
  intro i j hij hj
  have h1 := step (j - i - 1) i (by omega)
  have h2 : seen[i + (j - i - 1) + 1]'(by omega) = seen[j] := by congr 1; omega
  rw [h2] at h1
  exact h1
theorem GoodP.bd {pat : List Int} {win : Int} (h : GoodP pat win) {y : Int} (hy : y ∈ pat) : 0 ≤ y ∧ y ≤ 100000 := by
  obtain ⟨j, hj, rfl⟩ := List.mem_iff_getElem.1 hy
  exact ⟨(h.2 j hj).1, (h.2 j hj).2.1⟩

structure MaInv (w : World) (mb sb rb bb : Nat) (vp vs : Value) (pat seen : List Int) (win : Int) (pre : List Int) (W : World) : Prop where
  m : W.heap[mb]? = some (.cells #[vp, .int .i64 win] 85 (0, 0))
  s : W.heap[sb]? = some (.cells #[vs] 22 (0, 0))
  r : ∃ cs, W.heap[rb]? = some (.cells cs 26 (0, 0)) ∧ cs.size = 3
  b : ∃ v, W.heap[bb]? = some (.cells #[.int .i64 (bestS (cntF pat seen win) pre).1, .int .i64 (bestS (cntF pat seen win) pre).2, v] 26 (0, 0)) ∧
    (pre = [] ∧ v = .slice none 0 0 ∨ pre ≠ [] ∧ W.ownsRow w.heap.size 3 1 v pat.length ((fitL pat seen win (bestS (cntF pat seen win) pre).1).map (.int .i64)))
  ext : Ext w W

theorem MaInv.own {w : World} {mb sb rb bb : Nat} {vp vs : Value} {pat seen : List Int} {win : Int} {B : Nat} (hB : w.heap.size ≤ B) :
    OwnFrom B (fun (pre : List Sh) W => MaInv w mb sb rb bb vp vs pat seen win (pre.map (·.1)) W) := by
  intro s A B' row hs hg hr
  have keep : ∀ {b : Nat} {cs : Array Value} {t : TypeId}, A.heap[b]? = some (.cells cs t (0, 0)) → B'.heap[b]? = some (.cells cs t (0, 0)) := fun h =>
    (hg.block _ (blk_lt h) (fun e => by obtain ⟨o, ho, hc⟩ := (hr _ e.symm).2; rw [h] at ho; cases ho; cases hc)).trans h
  obtain ⟨h1, h2, ⟨cs, h3, h4⟩, ⟨v, h5, h6⟩, h7⟩ := hs
  refine ⟨keep h1, keep h2, ⟨cs, keep h3, h4⟩, ⟨v, keep h5, ?_⟩, h7.grown hg h7.size (fun k e => Nat.le_trans hB (hr k e).1)⟩
  rcases h6 with h6 | ⟨h6, h8⟩
  · exact .inl h6
  · refine .inr ⟨h6, h8.kept hg ?_⟩
    rcases h8.2 with ⟨rfl, _⟩ | ⟨g, cap, cur, rfl, _, hgb, _⟩
    · exact .inl rfl
    · refine .inr fun e' => ?_
      obtain ⟨o, ho, hc⟩ := (hr g (by simpa [Value.ownBlock] using e'.symm)).2
      rw [hgb] at ho; cases ho; cases hc

theorem owns_base {w : World} {B B' : Nat} {e : TypeId} {size : Nat} {v : Value} {n : Nat} {xs : List Value} (h : w.ownsRow B e size v n xs) (hB : B' ≤ B) : w.ownsRow B' e size v n xs :=
  ⟨h.1, h.2.imp id (fun ⟨g, cap, cur, hv, hb, r⟩ => ⟨g, cap, cur, hv, Nat.le_trans hB hb, r⟩)⟩
theorem owns_ext {w w' : World} {B : Nat} {e : TypeId} {size : Nat} {v : Value} {n : Nat} {xs : List Value} (h : w.ownsRow B e size v n xs) (hx : Ext w w') : w'.ownsRow B e size v n xs := by
  refine owns_only (S := fun _ => False) h ⟨hx.os, hx.tape, hx.output, hx.size, fun k hk _ => hx.block k hk⟩ (fun _ _ h => h)
theorem ko_only {S : Nat → Prop} {w w' : World} (h : Only S w w') (hS : ∀ k o, w.heap[k]? = some o → S k → o.isCells = true) : KeepsOthers w w' :=
  ⟨h.size, fun k o hk ho => h.heap hk (fun hs => by rw [hS k o hk hs] at ho; cases ho)⟩
section
variable {w W W' : World} {mb sb rb bb : Nat} {vp vs : Value} {pat seen : List Int} {win x : Int} {pre : List Int}
theorem MaInv.keep (h : MaInv w mb sb rb bb vp vs pat seen win pre W) (hx : Ext W W') (hlt : ¬ (bestS (cntF pat seen win) pre).2 < cntF pat seen win x) : MaInv w mb sb rb bb vp vs pat seen win (pre ++ [x]) W' := by
  obtain ⟨h1, h2, ⟨cs, h3, h4⟩, ⟨v, h5, h6⟩, h7⟩ := h
  refine ⟨hx.blk h1, hx.blk h2, ⟨cs, hx.blk h3, h4⟩, ⟨v, ?_, ?_⟩, h7.tr hx⟩
  · rw [bestS_snoc, if_neg hlt]; exact hx.blk h5
  · rw [bestS_snoc, if_neg hlt]
    rcases h6 with ⟨rfl, _⟩ | ⟨h6, h8⟩
    · exfalso
      have := (cntL_bd (fitL pat seen win x)).1
      rw [bestS_nil] at hlt
      unfold cntF at hlt
      omega
    · exact .inr ⟨by simp, owns_ext h8 hx⟩
theorem MaInv.take {vf : Value} (h : MaInv w mb sb rb bb vp vs pat seen win pre W) {W4 : World} (hx : Ext W W4) (ho : Only (fun k => k = bb) W4 W') (hb : W'.heap[bb]? = some (.cells #[.int .i64 x, .int .i64 (cntF pat seen win x), vf] 26 (0, 0)))
    (hown : W4.ownsRow W.heap.size 3 1 vf pat.length ((fitL pat seen win x).map (.int .i64))) (hlt : (bestS (cntF pat seen win) pre).2 < cntF pat seen win x)
    (n1 : mb < bb) (n2 : sb < bb) (n3 : rb < bb) (n4 : w.heap.size ≤ bb) : MaInv w mb sb rb bb vp vs pat seen win (pre ++ [x]) W' := by
  obtain ⟨h1, h2, ⟨cs, h3, h4⟩, ⟨v, h5, h6⟩, h7⟩ := h
  have hbl := blk_lt h5
  refine ⟨ho.heap (hx.blk h1) (fun (e : mb = bb) => by omega), ho.heap (hx.blk h2) (fun (e : sb = bb) => by omega), ⟨cs, ho.heap (hx.blk h3) (fun (e : rb = bb) => by omega), h4⟩, ⟨vf, ?_, ?_⟩, (h7.tr hx).then_only ho (fun k (e : k = bb) => by omega)⟩
  · rw [bestS_snoc, if_pos hlt]; exact hb
  · rw [bestS_snoc, if_pos hlt]
    refine .inr ⟨by simp, owns_base (owns_only hown ho (fun k hk (e : k = bb) => ?_)) h7.size⟩
    have := (hown.lt k hk).1
    omega
end

theorem shifts_any (w : World) : Calls Try.prog 48 #[] w fun e w' => e = .returned (.func (.func 55) #[] #[]) ∧ w' = w := by
  go_enter Try.func48, Try.ntmps48
  go_wp2
  go_ret
  exact ⟨rfl, rfl⟩

set_option maxRecDepth 100000 in
set_option maxHeartbeats 2000000 in
theorem match_any (pat seen : List Int) (ap as_ : Option Addr) (cp cs : Nat) (win : Int) (w : World) (hp : Ints w (.slice ap pat.length cp) pat) (hs : Ints w (.slice as_ seen.length cs) seen)
    (hgood : GoodP pat win) (hplen : 0 < pat.length ∧ pat.length ≤ 1000) (hsb : ∀ x ∈ seen, I64 x) :
    Calls Try.prog 33 #[.agg #[.slice ap pat.length cp, .int .i64 win], .slice as_ seen.length cs] w (MatchPost w pat seen win) := by
  have hslen := hs.len
  have HP := Lib.hid hp
  have HS := Lib.hid hs
  have HG := Lib.hid hgood
  have HSB := Lib.hid hsb
  clear hp hs hgood hsb
  refine (callsIn_wide (n := 10)).1 (callsIn_of_wp_marks Try.func33 rfl trivial (wpIn_wide.2 ?_) rfl)
  simp only [Try.ntmps33, List.size_toArray, List.length_cons, List.length_nil, Nat.reduceAdd, Nat.reduceSub, Array.replicate_succ, Array.replicate_zero, List.push_toArray, List.append_toArray, List.nil_append, List.cons_append]
  go_upto_region 1 with (first
      | (with_reducible refine wpList_box (v := .agg #[.slice ap pat.length cp, .int .i64 win]) rfl rfl rfl ?_
         rintro mb w1 ⟨hb1, hx1, hl1⟩
         have HB1 := Lib.hid hb1
         have HX1 := Lib.hid hx1
         have L1 := Lib.hid hl1
         clear hb1 hx1 hl1)
      | (with_reducible refine wpList_box (v := .slice as_ seen.length cs) rfl rfl rfl ?_
         rintro sb w2 ⟨hb2, hx2, hl2⟩
         have c2 : w2.cell? ⟨sb, 0, none⟩ = some (.slice as_ seen.length cs) := by rw [blk_cell hb2]; rfl
         have L2 := Lib.hid (Nat.lt_of_lt_of_le (blk_lt HB1.out) hl2)
         have HB2 := Lib.hid hb2
         have HM2 := Lib.hid (hx2.blk HB1.out)
         have HX2 := Lib.hid (HX1.out.tr hx2)
         clear hb2 hx2 hl2 HB1 HX1)
      | (with_reducible refine wpList_alloc (o := ⟨some 4, _, _, _, _, _⟩) rfl rfl Try.zeroValue26 ?_
         rintro rb w3 ⟨hb3, hx3, hl3⟩
         have c3 := hx3.cellSome c2
         have L3 := Lib.hid (Nat.lt_of_lt_of_le (blk_lt HB2.out) hl3)
         have HB3 := Lib.hid hb3
         have HS3 := Lib.hid (hx3.blk HB2.out)
         have HM3 := Lib.hid (hx3.blk HM2.out)
         have HX3 := Lib.hid (HX2.out.tr hx3)
         clear hb3 hx3 hl3 HB2 HM2 HX2 c2))
  by_cases h40 : 40 < seen.length
  · have h40' : (40:Int) < (seen.length:Int) := by omega
    go_wp2_with (first
      | (with_reducible refine wpList_storeB (b := rb) (cells := #[.int .i64 0, .int .i64 0, .slice none 0 0]) rfl rfl ?_ ?_ HB3.out ?_ ?_ ?_ ?_
         · rfl
         · rfl
         · kernel_rfl
         · rfl
         · simp [Value.oneCell']
         rintro w5 hb5 ho5
         have cR : ∀ i, w5.cell? ⟨rb, i, none⟩ = (#[Value.int .i64 0, .int .i64 0, .slice none 0 0] : Array Value)[i]? := blk_cell hb5
         have HX5 := Lib.hid (HX3.out.then_only ho5 (fun k (hk : k = rb) => by have := L1.out; have := L2.out; have := L3.out; omega))
         clear hb5 ho5))
    refine ⟨.tuple #[.agg #[.int .i64 0, .int .i64 0, .slice none 0 0], .int .i64 2], ?_, .inl ⟨2, .inl ⟨rfl, h40⟩, rfl⟩, HX5.out⟩
    simp [results, Try.f33, go_sem, cR]
  · have h40' : (seen.length:Int) ≤ 40 := by omega
    have h40n : seen.length ≤ 40 := by omega
    clear h40
    go_wp2
    go_loopw [17] (fun t wr => ∃ k : Nat, k ≤ seen.length ∧ t = .int .i64 k ∧ (∃ n, wr = w3.drewN n) ∧ Hid (∀ j (h : j < seen.length), j < k → -100000 ≤ seen[j] ∧ seen[j] ≤ 200000 ∧ (∀ h0 : 0 < j, seen[j-1]'(by omega) < seen[j]))) (fun t _ => seen.length - (intOf t).toNat)
    case atStart => exact ⟨0, Nat.zero_le _, rfl, ⟨0, rfl⟩, fun j _ h => by omega⟩
    case round =>
      obtain ⟨k, hk, rfl, ⟨n, hwr⟩, HR⟩ := hrel
      have c0 : wr.cell? ⟨sb, 0, none⟩ = some (.slice as_ seen.length cs) := by rw [hwr]; exact c3
      have HXR : Hid (Ext w wr) := by rw [hwr]; exact HX3.out.drewN n
      have HM : Hid (wr.heap[mb]? = some (.cells #[.slice ap pat.length cp, .int .i64 win] 85 (0, 0))) := by rw [hwr]; exact HM3.out
      have HS' : Hid (wr.heap[sb]? = some (.cells #[.slice as_ seen.length cs] 22 (0, 0))) := by rw [hwr]; exact HS3.out
      have HB : Hid (wr.heap[rb]? = some (.cells #[.int .i64 0, .int .i64 0, .slice none 0 0] 26 (0, 0))) := by rw [hwr]; exact HB3.out
      have HW := Lib.hid hwr
      clear hwr c3
      by_cases hlt : k < seen.length
      · obtain ⟨b1, o1, rfl, hc1⟩ := HS.out.cells (by omega)
        have c1 := HXR.out.cellSome (hc1 k hlt)
        have c2 : ∀ h0 : 0 < k, wr.cell? ⟨b1, o1 + (k - 1), none⟩ = some (.int .i64 (seen[k-1]'(by omega))) := fun h0 => HXR.out.cellSome (hc1 (k - 1) (by omega))
        have j1 : (0:Int) ≤ (k:Int) := by omega
        have j2 : (k:Int) < (seen.length:Int) := by omega
        obtain ⟨p1, p2⟩ := HSB.out seen[k] (List.getElem_mem hlt)
        obtain ⟨p, hpe⟩ : ∃ p, p = seen[k] := ⟨_, rfl⟩
        have HPE := Lib.hid hpe
        rw [← hpe] at c1 p1 p2
        clear hc1 hpe
        by_cases hr : -100000 ≤ p ∧ p ≤ 200000
        · by_cases hk0 : 0 < k
          · have c2' := c2 hk0
            clear c2
            obtain ⟨q1, q2, _⟩ := HR.out (k - 1) (by omega) (by omega)
            obtain ⟨p', hpe'⟩ : ∃ p', p' = seen[k-1]'(by omega) := ⟨_, rfl⟩
            have HPE' := Lib.hid hpe'
            rw [← hpe'] at c2' q1 q2
            clear hpe'
            have E1 := Lib.hid (i64_eq ((k:Int) - 1) (by omega))
            have E2 := Lib.hid (show ((k:Int) - 1).toNat = k - 1 by omega)
            have e3 : (0:Int) ≤ (k:Int) - 1 := by omega
            have e4 : (k:Int) - 1 < (seen.length:Int) := by omega
            have hgt : (0:Int) < (k:Int) := by omega
            by_cases hgd : p ≤ p'
            · have HF : Hid (¬ SeenOk seen) := fun hg => by
                have h2 := (hg k hlt).2.2 hk0
                rw [← HPE.out, ← HPE'.out] at h2
                omega
              have hd : decide (p ≤ p') = true := by simpa using hgd
              clear hgd
              have e1 := E1.out
              have e2 := E2.out
              have HB5 : Hid (wr.heap[rb]? = some (.cells #[.int .i64 0, .int .i64 0, .slice none 0 0] 26 (0, 0))) := HB.out
              have HX4 := Lib.hid (HXR.out)
              go_wp2_with (first
                | (go_at_call 31; refine (in_true' _ _ _ _ hr).mono ?_; rintro e w' ⟨rfl, rfl⟩)
                | (with_reducible refine wpList_storeB (b := rb) (cells := #[.int .i64 0, .int .i64 0, .slice none 0 0]) rfl rfl ?_ ?_ HB5.out ?_ ?_ ?_ ?_
                   · rfl
                   · rfl
                   · kernel_rfl
                   · rfl
                   · simp [Value.oneCell']
                   rintro w5 hb5 ho5
                   have cR : ∀ i, w5.cell? ⟨rb, i, none⟩ = (#[Value.int .i64 0, .int .i64 0, .slice none 0 0] : Array Value)[i]? := blk_cell hb5
                   have HX5 := Lib.hid (HX4.out.then_only ho5 (fun k (hk : k = rb) => by have := L1.out; have := L2.out; have := L3.out; omega))
                   clear hb5 ho5))
              refine ⟨.tuple #[.agg #[.int .i64 0, .int .i64 0, .slice none 0 0], .int .i64 11], ?_, .inl ⟨11, .inr ⟨rfl, h40n, HF.out⟩, rfl⟩, HX5.out⟩
              simp [results, Try.f33, go_sem, cR]
            · have HN : Hid (∀ j (h : j < seen.length), j < k + 1 → -100000 ≤ seen[j] ∧ seen[j] ≤ 200000 ∧ (∀ h0 : 0 < j, seen[j-1]'(by omega) < seen[j])) := fun j hj hjk => by
                rcases Nat.lt_or_ge j k with h | h
                · exact HR.out j hj h
                · obtain rfl : j = k := by omega
                  rw [← HPE.out]
                  exact ⟨hr.1, hr.2, fun h0 => by rw [← HPE'.out]; omega⟩
              have hd : decide (p ≤ p') = false := by simpa using hgd
              clear hgd
              have e1 := E1.out
              have e2 := E2.out
              go_wp2_with (go_at_call 31; refine (in_true' _ _ _ _ hr).mono ?_; rintro e w' ⟨rfl, rfl⟩)
              go_roundw
              case rel => exact ⟨k + 1, by omega, by go_num, ⟨n, HW.out⟩, HN⟩
              case measure => simp [intOf]; omega
          · obtain rfl : k = 0 := by omega
            rw [Nat.add_zero] at c1
            have HN : Hid (∀ j (h : j < seen.length), j < 0 + 1 → -100000 ≤ seen[j] ∧ seen[j] ≤ 200000 ∧ (∀ h0 : 0 < j, seen[j-1]'(by omega) < seen[j])) := fun j hj hjk => by
              obtain rfl : j = 0 := by omega
              rw [← HPE.out]
              exact ⟨hr.1, hr.2, fun h0 => by omega⟩
            have hd : decide ((0:Int) < (((0:Nat):Int))) = false := by simp
            clear c2
            go_wp2_with (go_at_call 31; refine (in_true' _ _ _ _ hr).mono ?_; rintro e w' ⟨rfl, rfl⟩)
            go_roundw
            case rel => exact ⟨0 + 1, by omega, by go_num, ⟨n, HW.out⟩, HN⟩
            case measure => simp [intOf]; omega
        · have HF : Hid (¬ SeenOk seen) := fun hg => by
            have h2 := hg k hlt
            rw [← HPE.out] at h2
            exact hr ⟨h2.1, h2.2.1⟩
          clear c2
          have HB5 : Hid (wr.heap[rb]? = some (.cells #[.int .i64 0, .int .i64 0, .slice none 0 0] 26 (0, 0))) := HB.out
          have HX4 := Lib.hid (HXR.out)
          go_wp2_with (first
            | (go_at_call 31; refine (in_false' _ _ _ _ hr).mono ?_; rintro e w' ⟨rfl, rfl⟩)
            | (with_reducible refine wpList_storeB (b := rb) (cells := #[.int .i64 0, .int .i64 0, .slice none 0 0]) rfl rfl ?_ ?_ HB5.out ?_ ?_ ?_ ?_
               · rfl
               · rfl
               · kernel_rfl
               · rfl
               · simp [Value.oneCell']
               rintro w5 hb5 ho5
               have cR : ∀ i, w5.cell? ⟨rb, i, none⟩ = (#[Value.int .i64 0, .int .i64 0, .slice none 0 0] : Array Value)[i]? := blk_cell hb5
               have HX5 := Lib.hid (HX4.out.then_only ho5 (fun k (hk : k = rb) => by have := L1.out; have := L2.out; have := L3.out; omega))
               clear hb5 ho5))
          refine ⟨.tuple #[.agg #[.int .i64 0, .int .i64 0, .slice none 0 0], .int .i64 11], ?_, .inl ⟨11, .inr ⟨rfl, h40n, HF.out⟩, rfl⟩, HX5.out⟩
          simp [results, Try.f33, go_sem, cR]
      · have HOK : Hid (SeenOk seen) := fun j hj => HR.out j hj (by omega)
        clear HR HW
        go_wp2_with (first
          | (with_reducible refine wpList_alloc (o := ⟨some 8, _, _, _, _, _⟩) rfl rfl Try.zeroValue26 ?_
             rintro bb w4 ⟨hb4, hx4, hl4⟩
             have L4 := Lib.hid (Nat.lt_of_lt_of_le (blk_lt HB.out) hl4)
             have HB4 := Lib.hid hb4
             have HS4 := Lib.hid (hx4.blk HS'.out)
             have HM4 := Lib.hid (hx4.blk HM.out)
             have HR4 := Lib.hid (hx4.blk HB.out)
             have HX4 := Lib.hid (HXR.out.tr hx4)
             clear hb4 hx4 hl4)
          | (with_reducible refine wpList_storeB (b := bb) (cells := #[.int .i64 0, .int .i64 (-1), .slice none 0 0]) rfl rfl ?_ ?_ HB4.out ?_ ?_ ?_ ?_
             · rfl
             · rfl
             · kernel_rfl
             · rfl
             · simp [Value.oneCell']
             rintro w5 hb5 ho5
             have HI5 : Hid (MaInv w mb sb rb bb (.slice ap pat.length cp) (.slice as_ seen.length cs) pat seen win [] w5) := by
               have l1 := L1.out; have l2 := L2.out; have l3 := L3.out; have l4 := L4.out
               refine ⟨ho5.heap HM4.out (fun (h : mb = bb) => by omega), ho5.heap HS4.out (fun (h : sb = bb) => by omega), ⟨_, ho5.heap HR4.out (fun (h : rb = bb) => by omega), rfl⟩, ⟨_, hb5, .inl ⟨rfl, rfl⟩⟩, HX4.out.then_only ho5 (fun k (hk : k = bb) => by omega)⟩
             clear hb5 ho5)
          | (go_at_call 48; refine (shifts_any _).mono ?_; rintro e w' ⟨rfl, rfl⟩))
        have hsz := HI5.out.ext.size
        refine (wpIn_wide (n := 10)).1 (wpIn_rangeFunc_ownF rfl (by decide) (gf := 55) (lb := #[]) rfl trivial (enters_of Try.func55 (by kernel_rfl) rfl)
          (shifts_stops 9 (by decide) w') (Kp := fun _ _ => True) (fun _ _ => trivial) (fun _ _ _ _ _ _ _ _ => trivial) (Below.refl _ _) (fun _ => rfl)
          (fun pre W => MaInv w mb sb rb bb (.slice ap pat.length cp) (.slice as_ seen.length cs) pat seen win (pre.map (·.1)) W) (fun _ _ _ => False)
          (MaInv.own hsz) (fun _ _ _ _ _ h _ _ => h) HI5.out ?a1 ?assign ?body ?done ?stop)
        case assign =>
          intro l x W K hK
          gi_wp2
          exact hK
        case body =>
          rintro l pre ⟨x, hxb⟩ W hi hlen
          have HI := Lib.hid hi
          have HC := Lib.hid (find_any pat seen ap as_ cp cs win x W (HP.out.ext hi.ext) (HS.out.ext hi.ext) (SeenOk.inc HOK.out) (by omega) (by omega) (fun y hy => GoodP.bd HG.out hy) hxb HG.out.1)
          have cM : ∀ i, W.cell? ⟨mb, i, none⟩ = (#[Value.slice ap pat.length cp, .int .i64 win] : Array Value)[i]? := blk_cell hi.m
          have cS : W.cell? ⟨sb, 0, none⟩ = some (.slice as_ seen.length cs) := by rw [blk_cell hi.s]; rfl
          have hb1 := hi.ext.size
          obtain ⟨vb, hbb, _⟩ := hi.b
          have HBB := Lib.hid hbb
          have hbl := blk_lt hbb
          obtain ⟨m, hm⟩ : ∃ m, pat.length = m + 1 := ⟨pat.length - 1, by omega⟩
          have HMM := Lib.hid hm
          obtain ⟨bc, hbc⟩ : ∃ bc, bc = (bestS (cntF pat seen win) (pre.map (·.1))).2 := ⟨_, rfl⟩
          obtain ⟨fc, hfc⟩ : ∃ fc, fc = cntF pat seen win x := ⟨_, rfl⟩
          have HBC := Lib.hid hbc
          have HFC := Lib.hid hfc
          clear hi hbb hm
          rw [← hbc] at HBB
          have hfc' : cntL (fitL pat seen win x) = fc := hfc.symm
          unfold FindPost at HC
          rw [hfc'] at HC
          clear hbc hfc hfc'
          by_cases hgt : bc < fc
          · have hd : decide (bc < fc) = true := by simpa using hgt
            have HGT := Lib.hid hgt
            clear hgt
            gi_wp2_with (first
              | (refine ⟨trivial, ?_⟩
                 gi_at_call 49
                 refine (CallsIn.inRound l (callsIn_wide.2 HC.out)).mono ?_
                 rintro e W2 ⟨vf, rfl, hown, hx⟩
                 have HO := Lib.hid (HMM.out ▸ hown)
                 obtain ⟨g, cap, rfl⟩ := ownsRow_succ HO.out
                 have HX2 := Lib.hid hx
                 have HOW := Lib.hid hown
                 have HOW2 := Lib.hid hown
                 clear hown hx HO)
              | (with_reducible refine wpListIn_alloc (o := ⟨some 10, _, _, _, _, _⟩) rfl rfl Try.zeroValue26 ?_
                 rintro fb W3 ⟨hb3, hx3, hl3⟩
                 have HF3 := Lib.hid hb3
                 have HX3' := Lib.hid (HX2.out.tr hx3)
                 have HOW3 := Lib.hid (owns_ext HOW.out hx3)
                 have L5 := Lib.hid (Nat.le_trans HX2.out.size hl3)
                 have L6 := Lib.hid hl3
                 clear hb3 hx3 hl3)
              | (with_reducible refine wpListIn_storeB (b := fb) (cells := #[.int .i64 x, .int .i64 fc, .slice (some ⟨g, 0, none⟩) (m + 1) cap]) rfl rfl ?_ ?_ HF3.out ?_ ?_ ?_ ?_
                 · rfl
                 · rfl
                 · kernel_rfl
                 · rfl
                 · simp [Value.oneCell']
                 rintro W4 hb4 ho4
                 have cF : ∀ i, W4.cell? ⟨fb, i, none⟩ = (#[.int .i64 x, .int .i64 fc, .slice (some ⟨g, 0, none⟩) (m + 1) cap] : Array Value)[i]? := blk_cell hb4
                 have HX4' := Lib.hid (HX3'.out.then_only ho4 (fun k (hk : k = fb) => by have := L5.out; omega))
                 have HB4' := Lib.hid (HX4'.out.blk HBB.out)
                 have cB : ∀ i, W4.cell? ⟨bb, i, none⟩ = (#[.int .i64 (bestS (cntF pat seen win) (pre.map (·.1))).1, .int .i64 bc, vb] : Array Value)[i]? := blk_cell HB4'.out
                 have HOW4 := Lib.hid (owns_only HOW3.out ho4 (fun k hk (e : k = fb) => by have := (HOW2.out.lt k hk).2; have := L6.out; omega))
                 clear hb4 ho4)
              | (with_reducible refine wpListIn_storeB (b := bb) (cells := #[.int .i64 x, .int .i64 fc, .slice (some ⟨g, 0, none⟩) (m + 1) cap]) rfl rfl ?_ ?_ HB4'.out ?_ ?_ ?_ ?_
                 · rfl
                 · rfl
                 · kernel_rfl
                 · rfl
                 · simp [Value.oneCell']
                 rintro W5 hb5 ho5
                 have HX5 := Lib.hid (Only.tr (Only.of_ext (S := fun k => k = bb) HX4'.out) ho5)
                 have HI5' := Lib.hid (MaInv.take HI.out HX4'.out ho5 (HFC.out ▸ hb5) HOW4.out (HBC.out ▸ HFC.out ▸ HGT.out) (by have := L2.out; have := L3.out; have := L4.out; omega) (by have := L3.out; have := L4.out; omega) L4.out (by have := L1.out; have := L2.out; have := L3.out; have := L4.out; omega))
                 clear hb5 ho5))
            exact ⟨ko_only HX5.out (fun k o hk (e : k = bb) => by subst e; rw [HBB.out] at hk; cases hk; rfl), trivial, by dsimp only; rw [List.map_append]; exact HI5'.out⟩
          · have hd : decide (bc < fc) = false := by simpa using hgt
            have HGT := Lib.hid hgt
            clear hgt
            gi_wp2_with (first
              | (refine ⟨trivial, ?_⟩
                 gi_at_call 49
                 refine (CallsIn.inRound l (callsIn_wide.2 HC.out)).mono ?_
                 rintro e W2 ⟨vf, rfl, hown, hx⟩
                 have HO := Lib.hid (HMM.out ▸ hown)
                 obtain ⟨g, cap, rfl⟩ := ownsRow_succ HO.out
                 have HX2 := Lib.hid hx
                 have HOW := Lib.hid hown
                 clear hown hx HO)
              | (with_reducible refine wpListIn_alloc (o := ⟨some 10, _, _, _, _, _⟩) rfl rfl Try.zeroValue26 ?_
                 rintro fb W3 ⟨hb3, hx3, hl3⟩
                 have HF3 := Lib.hid hb3
                 have HX3' := Lib.hid (HX2.out.tr hx3)
                 have HOW3 := Lib.hid (owns_ext HOW.out hx3)
                 have L5 := Lib.hid (Nat.le_trans HX2.out.size hl3)
                 have L6 := Lib.hid hl3
                 clear hb3 hx3 hl3)
              | (with_reducible refine wpListIn_storeB (b := fb) (cells := #[.int .i64 x, .int .i64 fc, .slice (some ⟨g, 0, none⟩) (m + 1) cap]) rfl rfl ?_ ?_ HF3.out ?_ ?_ ?_ ?_
                 · rfl
                 · rfl
                 · kernel_rfl
                 · rfl
                 · simp [Value.oneCell']
                 rintro W4 hb4 ho4
                 have cF : ∀ i, W4.cell? ⟨fb, i, none⟩ = (#[.int .i64 x, .int .i64 fc, .slice (some ⟨g, 0, none⟩) (m + 1) cap] : Array Value)[i]? := blk_cell hb4
                 have HX4' := Lib.hid (HX3'.out.then_only ho4 (fun k (hk : k = fb) => by have := L5.out; omega))
                 have HB4' := Lib.hid (HX4'.out.blk HBB.out)
                 have cB : ∀ i, W4.cell? ⟨bb, i, none⟩ = (#[.int .i64 (bestS (cntF pat seen win) (pre.map (·.1))).1, .int .i64 bc, vb] : Array Value)[i]? := blk_cell HB4'.out
                 clear hb4 ho4))
            exact ⟨ko_only (Only.of_ext (S := fun _ => False) HX4'.out) (fun k o hk e => e.elim), trivial, by dsimp only; rw [List.map_append]; exact MaInv.keep HI.out HX4'.out (fun e => absurd (show bc < fc by rw [HBC.out, HFC.out]; exact e) (Int.not_lt.2 HGT.out))⟩
        case done =>
          rintro D ys W hD rfl hi hK
          rw [shsA_val] at hi
          obtain ⟨csr, hr, hrs⟩ := hi.r
          obtain ⟨vb, hb, hv⟩ := hi.b
          have hne : shs 2001 ≠ [] := fun e => by
            have h1 := shs_succ 2000 (by omega)
            rw [h1] at e
            simp at e
          obtain ⟨m, hm⟩ : ∃ m, pat.length = m + 1 := ⟨pat.length - 1, by omega⟩
          have hown := (hv.resolve_left (fun h => hne h.1)).2
          obtain ⟨g, cap, rfl⟩ := ownsRow_succ (hm ▸ hown)
          obtain ⟨sh, hsh⟩ : ∃ sh, sh = (bestS (cntF pat seen win) (shs 2001)).1 := ⟨_, rfl⟩
          obtain ⟨sc, hsc⟩ : ∃ sc, sc = (bestS (cntF pat seen win) (shs 2001)).2 := ⟨_, rfl⟩
          rw [← hsh] at hown
          rw [← hsh, ← hsc] at hb
          have HSH := Lib.hid hsh
          have HSC := Lib.hid hsc
          have HRB := Lib.hid hr
          have HOWN := Lib.hid hown
          have HE := Lib.hid hi.ext
          have HKK := Lib.hid hK
          have HMM := Lib.hid hm
          have HBB := Lib.hid hb
          have cB : ∀ i, W.cell? ⟨bb, i, none⟩ = (#[.int .i64 sh, .int .i64 sc, .slice (some ⟨g, 0, none⟩) (m + 1) cap] : Array Value)[i]? := blk_cell hb
          have HRS := Lib.hid hrs
          clear hi hr hv hne hown hsh hsc hb hK hm hrs
          go_wp2_with (
            with_reducible refine wpList_storeB (b := rb) (cells := #[.int .i64 sh, .int .i64 sc, .slice (some ⟨g, 0, none⟩) (m + 1) cap]) rfl rfl ?_ ?_ HRB.out ?_ ?_ ?_ ?_
            · rfl
            · rfl
            · kernel_rfl
            · exact HRS.out
            · simp [Value.oneCell']
            rintro W6 hb6 ho6
            have HB6 := Lib.hid hb6
            have HO6 := Lib.hid ho6
            clear hb6 ho6)
          have hrd : rb ≠ D := fun e => by subst e; have h1 := HRB.out; rw [HKK.out] at h1; cases h1
          have hK6 := HO6.out.heap HKK.out (fun (e : D = rb) => hrd e.symm)
          have hB7 : (W6.putObj D (.deferred none)).heap[rb]? = _ := ((grownBy_putObj' W6 D (.deferred none)).block rb (blk_lt HB6.out) (fun e => hrd (by cases e; rfl))).trans HB6.out
          have c7 : ∀ i, (W6.putObj D (.deferred none)).cell? ⟨rb, i, none⟩ = (#[.int .i64 sh, .int .i64 sc, .slice (some ⟨g, 0, none⟩) (m + 1) cap] : Array Value)[i]? := blk_cell hB7
          have hx6 : Ext w W6 := HE.out.then_only HO6.out (fun k (e : k = rb) => by have := L1.out; have := L2.out; have := L3.out; omega)
          have ho7 := ownsRow_putObj (owns_only HOWN.out HO6.out (fun k hk (e : k = rb) => by
            cases hk
            have h1 := HRB.out
            rcases HOWN.out.2 with ⟨h2, _⟩ | ⟨g', cap', cur, h2, _, h3, _⟩
            · cases h2
            · have e1 : g = g' := by simp at h2; exact h2.1
              have e2 : g = rb := e
              rw [← e2, e1, h3] at h1; cases h1)) (.deferred none) hK6 rfl
          refine ⟨by simp, .inl ⟨_, _, rfl, run_takeDeferred hK6, ?_⟩⟩
          refine ⟨.tuple #[.agg #[.int .i64 sh, .int .i64 sc, .slice (some ⟨g, 0, none⟩) (m + 1) cap], .int .i64 0], ?_, .inr ⟨h40n, HOK.out, _, by rw [← HSH.out, ← HSC.out], by rw [← HSH.out]; exact ho7⟩, hx6.trans (belowK_b (w := w) (Nat.le_refl _) W6 D _ _ (by omega) hK6 rfl rfl)⟩
          simp [results, Try.f33, go_sem, c7]
        case stop =>
          rintro D c pre W hD _ h
          exact h.elim
end Go.Proofs.Ytafnadaahnkcmaa
