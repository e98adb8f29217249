/- Match. -/
import Derived.Test.YtafnadaahnkcmaaMatch
namespace Go.Proofs.Ytafnadaahnkcmaa
open Go.RowKit
set_option linter.unusedVariables false

open Classical in
/-- The error of Match; 0: none. -/
noncomputable def matchErr (pat seen : List Int) (win : Int) : Int :=
  if ¬ (2 ≤ pat.length ∧ pat.length ≤ 12) ∨ 40 < seen.length then 2 else if ¬ GoodP pat win then 6 else if ¬ SeenOk seen then 11 else 0

def TopPost (w : World) (pat seen : List Int) (win : Int) (e : Ending) (w' : World) : Prop :=
  ((∃ er, er = matchErr pat seen win ∧ er ≠ 0 ∧ e = .returned (.tuple #[.agg #[.int .i64 0, .int .i64 0, .slice none 0 0], .int .i64 er])) ∨
   (matchErr pat seen win = 0 ∧ ∃ v, e = .returned (.tuple #[.agg #[.int .i64 (bestS (cntF pat seen win) (shs 2001)).1, .int .i64 (bestS (cntF pat seen win) (shs 2001)).2, v], .int .i64 0]) ∧
     w'.ownsRow w.heap.size 3 1 v pat.length ((fitL pat seen win (bestS (cntF pat seen win) (shs 2001)).1).map (.int .i64)))) ∧ Ext w w'

theorem MatchPost.form {w : World} {pat seen : List Int} {win : Int} {e : Ending} {w' : World} (h : MatchPost w pat seen win e w') (hp : 0 < pat.length) :
    ∃ s0 s1 a n c er, e = .returned (.tuple #[.agg #[.int .i64 s0, .int .i64 s1, .slice a n c], .int .i64 er]) ∧ Hid (MatchPost w pat seen win (.returned (.tuple #[.agg #[.int .i64 s0, .int .i64 s1, .slice a n c], .int .i64 er])) w') := by
  have h' := h
  rcases h with ⟨⟨er, her, rfl⟩ | ⟨h40, hok, v, rfl, hown⟩, hx⟩
  · exact ⟨_, _, _, _, _, _, rfl, h'⟩
  · obtain ⟨m, hm⟩ : ∃ m, pat.length = m + 1 := ⟨pat.length - 1, by omega⟩
    obtain ⟨g, cap, rfl⟩ := ownsRow_succ (hm ▸ hown)
    exact ⟨_, _, _, _, _, _, rfl, h'⟩
open Classical in
theorem MatchPost.top {w w4 w5 w6 : World} {rb : Nat} {pat seen : List Int} {win : Int} {e : Ending} (h : MatchPost w4 pat seen win e w5) (hx : Ext w w4) (ho : Only (fun k => k = rb) w5 w6) (hr : rb < w4.heap.size) (hw : w.heap.size ≤ rb)
    (h1 : 2 ≤ pat.length ∧ pat.length ≤ 12) (h2 : ¬ 40 < seen.length) (h3 : GoodP pat win) : TopPost w pat seen win e w6 := by
  have hE : matchErr pat seen win = if ¬ SeenOk seen then 11 else 0 := by
    unfold matchErr
    rw [if_neg (fun h => h.elim (fun h => h h1) h2), if_neg (fun h => h h3)]
  rcases h with ⟨⟨er, her, rfl⟩ | ⟨h40, hok, v, rfl, hown⟩, hx5⟩
  · refine ⟨.inl ⟨er, ?_, ?_, rfl⟩, (hx.tr hx5).then_only ho (fun k (e : k = rb) => by omega)⟩
    · rcases her with ⟨_, h4⟩ | ⟨h4, _, h5⟩
      · exact absurd h4 h2
      · rw [hE, if_pos h5, h4]
    · rcases her with ⟨h4, _⟩ | ⟨h4, _⟩ <;> omega
  · refine ⟨.inr ⟨?_, v, rfl, owns_base (owns_only hown ho (fun k hk (e : k = rb) => ?_)) hx.size⟩, (hx.tr hx5).then_only ho (fun k (e : k = rb) => by omega)⟩
    · rw [hE, if_neg (fun h => h hok)]
    · have := (hown.lt k hk).1
      omega

set_option maxRecDepth 100000 in
set_option maxHeartbeats 2000000 in
theorem matchTop_any (pat seen : List Int) (ap as_ : Option Addr) (cp cs : Nat) (win : Int) (w : World) (hp : Ints w (.slice ap pat.length cp) pat) (hs : Ints w (.slice as_ seen.length cs) seen)
    (hpb : ∀ x ∈ pat, I64 x) (hw : I64 win) (hsb : ∀ x ∈ seen, I64 x) :
    Calls Try.prog 11 #[.slice ap pat.length cp, .int .i64 win, .slice as_ seen.length cs] w (TopPost w pat seen win) := by
  have hslen := hs.len
  have hplen := hp.len
  have HP := Lib.hid hp
  have HS := Lib.hid hs
  have HPB := Lib.hid hpb
  have HSB := Lib.hid hsb
  clear hp hs hpb hsb
  go_enter Try.func11, Try.ntmps11
  go_upto_region 2 with (first
      | (with_reducible refine wpList_alloc (o := ⟨some 6, _, _, _, _, _⟩) rfl rfl Try.zeroValue26 ?_
         rintro rb w1 ⟨hb1, hx1, hl1⟩
         have HB1 := Lib.hid hb1
         have HX1 := Lib.hid hx1
         have L1 := Lib.hid hl1
         clear hb1 hx1 hl1)
      | (with_reducible refine wpList_alloc (o := ⟨some 8, _, _, _, _, _⟩) rfl rfl Try.zeroValue85 ?_
         rintro mb w2 ⟨hb2, hx2, hl2⟩
         have HB2 := Lib.hid hb2
         have HR2 := Lib.hid (hx2.blk HB1.out)
         have HX2 := Lib.hid (HX1.out.tr hx2)
         have L2 := Lib.hid (Nat.lt_of_lt_of_le (blk_lt HB1.out) hl2)
         clear hb2 hx2 hl2)
      | (with_reducible refine wpList_storeB (b := mb) (cells := #[.slice ap pat.length cp, .int .i64 win]) rfl rfl ?_ ?_ HB2.out ?_ ?_ ?_ ?_
         · rfl
         · rfl
         · kernel_rfl
         · rfl
         · simp [Value.oneCell']
         rintro w3 hb3 ho3
         have cM : ∀ i, w3.cell? ⟨mb, i, none⟩ = (#[.slice ap pat.length cp, .int .i64 win] : Array Value)[i]? := blk_cell hb3
         have HR3 := Lib.hid (ho3.heap HR2.out (fun (e : rb = mb) => by have := L2.out; omega))
         have HX3 := Lib.hid (HX2.out.then_only ho3 (fun k (hk : k = mb) => by have := L1.out; have := L2.out; omega))
         have HB3 := Lib.hid hb3
         clear hb3 ho3 HB1 HX1 HB2 HR2 HX2))
  by_cases h1 : 2 ≤ pat.length ∧ pat.length ≤ 12
  · have h1' : (2:Int) ≤ (pat.length:Int) ∧ (pat.length:Int) ≤ 12 := by omega
    by_cases h2 : 40 < seen.length
    · have h2' : decide ((40:Int) < (seen.length:Int)) = true := by simp; omega
      have HE : Hid (matchErr pat seen win = 2) := by unfold matchErr; rw [if_pos (.inr h2)]; exact rfl
      go_wp2_with (first
        | (go_at_call 31; refine (in_true' _ _ _ _ h1').mono ?_; rintro e w' ⟨rfl, rfl⟩)
        | (with_reducible refine wpList_storeB (b := rb) (cells := #[.int .i64 0, .int .i64 0, .slice none 0 0]) rfl rfl ?_ ?_ HR3.out ?_ ?_ ?_ ?_
           · rfl
           · rfl
           · kernel_rfl
           · rfl
           · simp [Value.oneCell']
           rintro w5 hb5 ho5
           have cR : ∀ i, w5.cell? ⟨rb, i, none⟩ = (#[.int .i64 0, .int .i64 0, .slice none 0 0] : Array Value)[i]? := blk_cell hb5
           have HX5 := Lib.hid (HX3.out.then_only ho5 (fun k (hk : k = rb) => by have := L1.out; omega))
           clear hb5 ho5))
      refine bodyPost_ret (v := .tuple #[.agg #[.int .i64 0, .int .i64 0, .slice none 0 0], .int .i64 2]) (by simp [results, Try.results11, go_sem, cR]) rfl ⟨.inl ⟨2, HE.out.symm, by decide, rfl⟩, HX5.out⟩
    · have h2' : decide ((40:Int) < (seen.length:Int)) = false := by simp; omega
      by_cases h3 : GoodP pat win
      · have h4 : goodB pat win = true := goodB_true h3
        have H3 := Lib.hid h3
        have HC := Lib.hid (right_any pat ap cp win w3 (HP.out.ext HX3.out) hw HPB.out)
        rw [h4] at HC
        clear h3 h4
        have hp0 : 0 < pat.length ∧ pat.length ≤ 1000 := by omega
        go_wp2_with (first
          | (go_at_call 31; refine (in_true' _ _ _ _ h1').mono ?_; rintro e w' ⟨rfl, rfl⟩)
          | (go_at_call 32; refine HC.out.mono ?_
             rintro e w4 ⟨rfl, hx4⟩
             have HX4 := Lib.hid (HX3.out.tr hx4)
             have HR4 := Lib.hid (hx4.blk HR3.out)
             have cM4 : ∀ i, w4.cell? ⟨mb, i, none⟩ = (#[.slice ap pat.length cp, .int .i64 win] : Array Value)[i]? := blk_cell (hx4.blk HB3.out)
             have HC2 := Lib.hid (match_any pat seen ap as_ cp cs win w4 (HP.out.ext HX4.out) (HS.out.ext HX4.out) H3.out hp0 HSB.out)
             clear hx4)
          | (go_at_call 33; refine HC2.out.mono ?_
             rintro e w5 hpo
             have hx5 := hpo.2
             have HR5 := Lib.hid (hx5.blk HR4.out)
             have HRL := Lib.hid (blk_lt HR4.out)
             clear hx5
             obtain ⟨s0, s1, a3, n3, c3, er, rfl, HPO⟩ := hpo.form hp0.1
             clear hpo)
          | (with_reducible refine wpList_storeB (b := rb) (cells := #[.int .i64 s0, .int .i64 s1, .slice a3 n3 c3]) rfl rfl ?_ ?_ HR5.out ?_ ?_ ?_ ?_
             · rfl
             · rfl
             · kernel_rfl
             · rfl
             · simp [Value.oneCell']
             rintro w6 hb6 ho6
             have cR : ∀ i, w6.cell? ⟨rb, i, none⟩ = (#[.int .i64 s0, .int .i64 s1, .slice a3 n3 c3] : Array Value)[i]? := blk_cell hb6
             have HT := Lib.hid (HPO.out.top HX4.out ho6 HRL.out L1.out h1 h2 H3.out)
             clear hb6 ho6))
        refine bodyPost_ret (v := .tuple #[.agg #[.int .i64 s0, .int .i64 s1, .slice a3 n3 c3], .int .i64 er]) (by simp [results, Try.results11, go_sem, cR]) rfl HT.out
      · have h4 : goodB pat win = false := goodB_false h3
        have HC := Lib.hid (right_any pat ap cp win w3 (HP.out.ext HX3.out) hw HPB.out)
        rw [h4] at HC
        have HE : Hid (matchErr pat seen win = 6) := by unfold matchErr; rw [if_neg (fun h => h.elim (fun h => h h1) h2), if_pos h3]; exact rfl
        clear h3 h4
        go_wp2_with (first
          | (go_at_call 31; refine (in_true' _ _ _ _ h1').mono ?_; rintro e w' ⟨rfl, rfl⟩)
          | (go_at_call 32; refine HC.out.mono ?_
             rintro e w4 ⟨rfl, hx4⟩
             have HX4 := Lib.hid (HX3.out.tr hx4)
             have HR4 := Lib.hid (hx4.blk HR3.out)
             clear hx4)
          | (with_reducible refine wpList_storeB (b := rb) (cells := #[.int .i64 0, .int .i64 0, .slice none 0 0]) rfl rfl ?_ ?_ HR4.out ?_ ?_ ?_ ?_
             · rfl
             · rfl
             · kernel_rfl
             · rfl
             · simp [Value.oneCell']
             rintro w5 hb5 ho5
             have cR : ∀ i, w5.cell? ⟨rb, i, none⟩ = (#[.int .i64 0, .int .i64 0, .slice none 0 0] : Array Value)[i]? := blk_cell hb5
             have HX5 := Lib.hid (HX4.out.then_only ho5 (fun k (hk : k = rb) => by have := L1.out; omega))
             clear hb5 ho5))
        refine bodyPost_ret (v := .tuple #[.agg #[.int .i64 0, .int .i64 0, .slice none 0 0], .int .i64 6]) (by simp [results, Try.results11, go_sem, cR]) rfl ⟨.inl ⟨6, HE.out.symm, by decide, rfl⟩, HX5.out⟩
  · have h1' : ¬ ((2:Int) ≤ (pat.length:Int) ∧ (pat.length:Int) ≤ 12) := by omega
    have HE : Hid (matchErr pat seen win = 2) := by unfold matchErr; rw [if_pos (.inl h1)]; exact rfl
    go_wp2_with (first
      | (go_at_call 31; refine (in_false' _ _ _ _ h1').mono ?_; rintro e w' ⟨rfl, rfl⟩)
      | (with_reducible refine wpList_storeB (b := rb) (cells := #[.int .i64 0, .int .i64 0, .slice none 0 0]) rfl rfl ?_ ?_ HR3.out ?_ ?_ ?_ ?_
         · rfl
         · rfl
         · kernel_rfl
         · rfl
         · simp [Value.oneCell']
         rintro w5 hb5 ho5
         have cR : ∀ i, w5.cell? ⟨rb, i, none⟩ = (#[.int .i64 0, .int .i64 0, .slice none 0 0] : Array Value)[i]? := blk_cell hb5
         have HX5 := Lib.hid (HX3.out.then_only ho5 (fun k (hk : k = rb) => by have := L1.out; omega))
         clear hb5 ho5))
    refine bodyPost_ret (v := .tuple #[.agg #[.int .i64 0, .int .i64 0, .slice none 0 0], .int .i64 2]) (by simp [results, Try.results11, go_sem, cR]) rfl ⟨.inl ⟨2, HE.out.symm, by decide, rfl⟩, HX5.out⟩
end Go.Proofs.Ytafnadaahnkcmaa
