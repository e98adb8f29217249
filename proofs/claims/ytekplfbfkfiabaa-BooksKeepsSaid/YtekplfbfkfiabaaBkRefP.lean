/- The reference's Post. -/
import Derived.Test.YtekplfbfkfiabaaRefK
import Derived.Test.YtekplfbfkfiabaaBkPost2
import Derived.Test.YtekplfbfkfiabaaBkKit
namespace Go.Proofs.Ytekplfbfkfiabaa
open Go.RowKit
set_option linter.unusedVariables false
set_option linter.unusedSimpArgs false

def RPostPost (w : World) (d : LedD) (va ve : Value) (x : EntD) (e : Ending) (w' : World) : Prop :=
  (postErr d x ≠ 0 ∧ e = .returned (.tuple #[rLed d va ve, .int .i64 (postErr d x)]) ∧ Ext w w') ∨
  (postErr d x = 0 ∧ ∃ v', e = .returned (.tuple #[rLed (postD d x) va v', .int .i64 0]) ∧ SigIn w' v' (postD d x).ents ∧ (∀ b, v'.ownBlock = some b → w.heap.size ≤ b) ∧ Ext w w')
theorem tRSigs : SliceT Try.prog 65 145 (.agg #[.int .i64 0, .int .i64 0, .int .i64 0, .int .i64 0, .int .u64 0]) 5 40 := ⟨by kernel_rfl, by kernel_rfl, rfl, by decide, by decide⟩
theorem rstep_q (h v : Int) (w : World) :
    Calls Try.prog 37 #[.int .u64 h, .int .u64 v] w fun e w' => e = .returned (.int .u64 (stepI h v)) ∧ w' = w :=
  (rstep_any h v w).mono fun e w' h => ⟨h.1, h.2.symm⟩

theorem postErr_ways (d : LedD) (x : EntD) :
    (¬ (d.ents.length : Int) < 5000 ∧ postErr d x = 2) ∨ ((d.ents.length : Int) < 5000 ∧
    ((¬ (0 ≤ x.frm ∧ x.frm < d.n ∧ 0 ≤ x.to ∧ x.to < d.n ∧ x.frm ≠ x.to) ∧ postErr d x = 1) ∨ ((0 ≤ x.frm ∧ x.frm < d.n ∧ 0 ≤ x.to ∧ x.to < d.n ∧ x.frm ≠ x.to) ∧
    (((d.at' x.frm).good ≠ (d.at' x.to).good ∧ postErr d x = 140) ∨ ((d.at' x.frm).good = (d.at' x.to).good ∧
    ((¬ (1 ≤ x.amt ∧ x.amt ≤ 1000000000000 ∧ 0 ≤ x.day ∧ x.day ≤ 100000) ∧ postErr d x = 6) ∨ ((1 ≤ x.amt ∧ x.amt ≤ 1000000000000 ∧ 0 ≤ x.day ∧ x.day ≤ 100000) ∧
    ((x.day ≤ d.closed ∧ postErr d x = 12) ∨ (d.closed < x.day ∧
    ((x.day < d.last ∧ postErr d x = 11) ∨ (d.last ≤ x.day ∧
    (((d.at' x.frm).stock = true ∧ balA x.frm d.ents < x.amt ∧ postErr d x = 9) ∨ (((d.at' x.frm).stock = false ∨ x.amt ≤ balA x.frm d.ents) ∧ postErr d x = 0))))))))))))) := by
  unfold postErr
  by_cases q1 : (d.ents.length : Int) < 5000
  · refine .inr ⟨q1, ?_⟩
    rw [if_neg (fun h => h q1)]
    by_cases q2 : 0 ≤ x.frm ∧ x.frm < d.n ∧ 0 ≤ x.to ∧ x.to < d.n ∧ x.frm ≠ x.to
    · refine .inr ⟨q2, ?_⟩
      rw [if_neg (fun h => h q2)]
      by_cases q3 : (d.at' x.frm).good = (d.at' x.to).good
      · refine .inr ⟨q3, ?_⟩
        rw [if_neg (fun h => h q3)]
        by_cases q4 : 1 ≤ x.amt ∧ x.amt ≤ 1000000000000 ∧ 0 ≤ x.day ∧ x.day ≤ 100000
        · refine .inr ⟨q4, ?_⟩
          rw [if_neg (fun h => h q4)]
          by_cases q5 : x.day ≤ d.closed
          · exact .inl ⟨q5, if_pos q5⟩
          · refine .inr ⟨by omega, ?_⟩
            rw [if_neg q5]
            by_cases q6 : x.day < d.last
            · exact .inl ⟨q6, if_pos q6⟩
            · refine .inr ⟨by omega, ?_⟩
              rw [if_neg q6]
              by_cases q7 : (d.at' x.frm).stock = true ∧ balA x.frm d.ents < x.amt
              · exact .inl ⟨q7.1, q7.2, if_pos q7⟩
              · refine .inr ⟨?_, if_neg q7⟩
                rcases hs : (d.at' x.frm).stock with _ | _
                · exact .inl rfl
                · exact .inr (Int.not_lt.1 fun h => q7 ⟨hs, h⟩)
        · exact .inl ⟨q4, if_pos q4⟩
      · exact .inl ⟨q3, if_pos q3⟩
    · exact .inl ⟨q2, if_pos q2⟩
  · exact .inl ⟨q1, if_pos q1⟩

set_option maxRecDepth 100000 in
set_option maxHeartbeats 8000000 in
theorem rPost_any (d : LedD) (va ve : Value) (x : EntD) (w : World) (ha : AccIn w va d.acc) (hs : SigIn w ve d.ents) (ok : LedOk d) (hx : x.fits) :
    Calls Try.prog 45 #[rLed d va ve, entV x] w (RPostPost w d va ve x) := by
  have hp : ∀ e w', RPostPost w d va ve x e w' → RPostPost w d va ve x e w' := fun _ _ h => h
  obtain ⟨er, her⟩ : ∃ er, er = postErr d x := ⟨_, rfl⟩
  have hn := ok.n1
  have hel := ok.len
  unfold LedD.n at hn
  obtain ⟨n1, n2⟩ := hn
  obtain ⟨a, c, rfl, HA⟩ := ha.form
  obtain ⟨b, o, rfl, hc⟩ := HA.out.cells (by omega)
  obtain ⟨a2, c2, rfl, HS⟩ := hs.form
  have hrl := fun w1 (k : Ext w w1) => rLast_any d (.slice (some ⟨b, o, none⟩) d.acc.length c) (.slice a2 d.ents.length c2) w1 (hs.ext k) ok.len
  have hrb := fun i w1 (k : Ext w w1) => rBalance_any d (.slice (some ⟨b, o, none⟩) d.acc.length c) (.slice a2 d.ents.length c2) i 100000 w1 (hs.ext k) ok
  have hba : ∀ i, balU i 100000 d.ents = balA i d.ents := fun i => balU_all i _ _ fun x hx => (ok.day x hx).2
  obtain ⟨xf, xt, xa, xd⟩ := x
  obtain ⟨fx1, fx2, fx3, fx4⟩ := hx
  dsimp only at fx1 fx2 fx3 fx4
  have hpe := postErr_ways d ⟨xf, xt, xa, xd⟩
  rw [← her] at hpe
  dsimp only at hpe
  unfold LedD.n at hpe
  have HP := Lib.hid hp
  have OK := Lib.hid ok
  have HRL := Lib.hid hrl
  have HRB := Lib.hid hrb
  have HE := Lib.hid her
  have HPE := Lib.hid hpe
  have HBA := Lib.hid hba
  have HC := Lib.hid hc
  clear hp ok hrl hrb her hpe hba hc
  clear ha hs
  unfold rLed entV at *
  go_enter Try.func45, Try.ntmps45
  go_upto_region 1 with (first
    | (with_reducible refine wpList_boxA (t := 81) rfl rfl rfl ?_
       rintro lb w1 hb1 hx1 hl1
       have LB := Lib.hid hb1
       have X := Lib.hid hx1
       have LL := Lib.hid hl1
       clear hb1 hx1 hl1)
    | (with_reducible refine wpList_boxA (t := 57) rfl rfl rfl ?_
       rintro eb w2 hb2 hx2 hl2
       have nel := Nat.lt_of_lt_of_le LB.out.lt hl2
       replace LB := Lib.hid (LB.out.ext hx2)
       replace X := Lib.hid (X.out.ext hx2)
       have EB := Lib.hid hb2
       have NEL := Lib.hid nel
       clear hb2 nel
       clear hl2 hx2)
    | (with_reducible refine wpList_allocA (t := 81) rfl rfl Try.zeroValue81 ?_
       rintro rb w3 hb3 hx3 hl3
       have nrl := Nat.lt_of_lt_of_le LB.out.lt hl3
       have nre := Nat.lt_of_lt_of_le EB.out.lt hl3
       have lr := Nat.le_trans X.out.size hl3
       replace LB := Lib.hid (LB.out.ext hx3)
       replace EB := Lib.hid (EB.out.ext hx3)
       replace X := Lib.hid (X.out.ext hx3)
       have RB := Lib.hid hb3
       have NRL := Lib.hid nrl
       have NRE := Lib.hid nre
       have LR := Lib.hid lr
       clear hb3 nrl nre lr
       clear hl3 hx3))
  obtain ⟨wz, rfl⟩ : ∃ W, W = w3 := ⟨w3, rfl⟩
  have b0 := LB.out.cell 0
  have b1 := LB.out.cell 1
  have b2 := LB.out.cell 2
  have b3 := LB.out.cell 3
  have e0 := EB.out.cell 0
  have e1 := EB.out.cell 1
  have e2 := EB.out.cell 2
  have e3 := EB.out.cell 3
  go_upto_region 2 with (fail)
  rcases HPE.out with ⟨q1, her2⟩ | ⟨q1, hpe⟩
  case inl =>
    have HER := Lib.hid her2
    have q1' : 5000 ≤ d.ents.length := by omega
    clear q1 her2
    go_wp2_with (
      with_reducible refine wpList_storeK (cells := #[.int .u64 d.key, .slice (some ⟨b, o, none⟩) d.acc.length c, .slice a2 d.ents.length c2, .int .i64 d.closed]) rfl rfl RB.out ?_ ?_ ?_ ?_ ?_ ?_
      · rfl
      · rfl
      · kernel_rfl
      · rfl
      · simp [Value.oneCell']
      rintro w5 hb5 ho5
      have hx5 := X.out.then_only ho5 (fun k (e : k = rb) => by rw [e]; exact LR.out)
      have k0 := hb5.cell
      clear X RB
      have X := Lib.hid hx5
      clear hx5
      clear hb5 ho5)
    refine bodyPost_ret (v := .tuple #[.agg #[.int .u64 d.key, .slice (some ⟨b, o, none⟩) d.acc.length c, .slice a2 d.ents.length c2, .int .i64 d.closed], .int .i64 er]) (by simp [results, Try.results45, go_sem, k0, HER.out]) rfl ?_
    exact HP.out _ _ (.inl ⟨by rw [← HE.out, HER.out]; decide, by rw [← HE.out]; rfl, X.out⟩)
  case inr =>
  replace HPE := Lib.hid hpe
  have q1' : d.ents.length < 5000 := by omega
  clear q1 hpe
  go_upto_region 4 with (fail)
  rcases HPE.out with ⟨q2, her2⟩ | ⟨q2, hpe⟩
  case inl =>
    have HER := Lib.hid her2
    have q3 : xf < 0 ∨ (0 ≤ xf ∧ (d.acc.length : Int) ≤ xf) ∨ (0 ≤ xf ∧ xf < (d.acc.length : Int) ∧ xt < 0) ∨ (0 ≤ xf ∧ xf < (d.acc.length : Int) ∧ 0 ≤ xt ∧ (d.acc.length : Int) ≤ xt) ∨ (0 ≤ xf ∧ xf < (d.acc.length : Int) ∧ 0 ≤ xt ∧ xt < (d.acc.length : Int) ∧ xf = xt) := by omega
    clear q2 her2
    rcases q3 with q | ⟨q, r⟩ | ⟨q, r, s⟩ | ⟨q, r, s, t⟩ | ⟨q, r, s, t, u⟩
    · go_wp2_with (
        with_reducible refine wpList_storeK (cells := #[.int .u64 d.key, .slice (some ⟨b, o, none⟩) d.acc.length c, .slice a2 d.ents.length c2, .int .i64 d.closed]) rfl rfl RB.out ?_ ?_ ?_ ?_ ?_ ?_
        · rfl
        · rfl
        · kernel_rfl
        · rfl
        · simp [Value.oneCell']
        rintro w5 hb5 ho5
        have hx5 := X.out.then_only ho5 (fun k (e : k = rb) => by rw [e]; exact LR.out)
        have k0 := hb5.cell
        clear X RB
        have X := Lib.hid hx5
        clear hx5
        clear hb5 ho5)
      refine bodyPost_ret (v := .tuple #[.agg #[.int .u64 d.key, .slice (some ⟨b, o, none⟩) d.acc.length c, .slice a2 d.ents.length c2, .int .i64 d.closed], .int .i64 er]) (by simp [results, Try.results45, go_sem, k0, HER.out]) rfl ?_
      exact HP.out _ _ (.inl ⟨by rw [← HE.out, HER.out]; decide, by rw [← HE.out]; rfl, X.out⟩)
    · go_wp2_with (
        with_reducible refine wpList_storeK (cells := #[.int .u64 d.key, .slice (some ⟨b, o, none⟩) d.acc.length c, .slice a2 d.ents.length c2, .int .i64 d.closed]) rfl rfl RB.out ?_ ?_ ?_ ?_ ?_ ?_
        · rfl
        · rfl
        · kernel_rfl
        · rfl
        · simp [Value.oneCell']
        rintro w5 hb5 ho5
        have hx5 := X.out.then_only ho5 (fun k (e : k = rb) => by rw [e]; exact LR.out)
        have k0 := hb5.cell
        clear X RB
        have X := Lib.hid hx5
        clear hx5
        clear hb5 ho5)
      refine bodyPost_ret (v := .tuple #[.agg #[.int .u64 d.key, .slice (some ⟨b, o, none⟩) d.acc.length c, .slice a2 d.ents.length c2, .int .i64 d.closed], .int .i64 er]) (by simp [results, Try.results45, go_sem, k0, HER.out]) rfl ?_
      exact HP.out _ _ (.inl ⟨by rw [← HE.out, HER.out]; decide, by rw [← HE.out]; rfl, X.out⟩)
    · go_wp2_with (
        with_reducible refine wpList_storeK (cells := #[.int .u64 d.key, .slice (some ⟨b, o, none⟩) d.acc.length c, .slice a2 d.ents.length c2, .int .i64 d.closed]) rfl rfl RB.out ?_ ?_ ?_ ?_ ?_ ?_
        · rfl
        · rfl
        · kernel_rfl
        · rfl
        · simp [Value.oneCell']
        rintro w5 hb5 ho5
        have hx5 := X.out.then_only ho5 (fun k (e : k = rb) => by rw [e]; exact LR.out)
        have k0 := hb5.cell
        clear X RB
        have X := Lib.hid hx5
        clear hx5
        clear hb5 ho5)
      refine bodyPost_ret (v := .tuple #[.agg #[.int .u64 d.key, .slice (some ⟨b, o, none⟩) d.acc.length c, .slice a2 d.ents.length c2, .int .i64 d.closed], .int .i64 er]) (by simp [results, Try.results45, go_sem, k0, HER.out]) rfl ?_
      exact HP.out _ _ (.inl ⟨by rw [← HE.out, HER.out]; decide, by rw [← HE.out]; rfl, X.out⟩)
    · go_wp2_with (
        with_reducible refine wpList_storeK (cells := #[.int .u64 d.key, .slice (some ⟨b, o, none⟩) d.acc.length c, .slice a2 d.ents.length c2, .int .i64 d.closed]) rfl rfl RB.out ?_ ?_ ?_ ?_ ?_ ?_
        · rfl
        · rfl
        · kernel_rfl
        · rfl
        · simp [Value.oneCell']
        rintro w5 hb5 ho5
        have hx5 := X.out.then_only ho5 (fun k (e : k = rb) => by rw [e]; exact LR.out)
        have k0 := hb5.cell
        clear X RB
        have X := Lib.hid hx5
        clear hx5
        clear hb5 ho5)
      refine bodyPost_ret (v := .tuple #[.agg #[.int .u64 d.key, .slice (some ⟨b, o, none⟩) d.acc.length c, .slice a2 d.ents.length c2, .int .i64 d.closed], .int .i64 er]) (by simp [results, Try.results45, go_sem, k0, HER.out]) rfl ?_
      exact HP.out _ _ (.inl ⟨by rw [← HE.out, HER.out]; decide, by rw [← HE.out]; rfl, X.out⟩)
    · have u2 : (xf == xt) = true := by simp [u]
      clear u
      go_wp2_with (
        with_reducible refine wpList_storeK (cells := #[.int .u64 d.key, .slice (some ⟨b, o, none⟩) d.acc.length c, .slice a2 d.ents.length c2, .int .i64 d.closed]) rfl rfl RB.out ?_ ?_ ?_ ?_ ?_ ?_
        · rfl
        · rfl
        · kernel_rfl
        · rfl
        · simp [Value.oneCell']
        rintro w5 hb5 ho5
        have hx5 := X.out.then_only ho5 (fun k (e : k = rb) => by rw [e]; exact LR.out)
        have k0 := hb5.cell
        clear X RB
        have X := Lib.hid hx5
        clear hx5
        clear hb5 ho5)
      refine bodyPost_ret (v := .tuple #[.agg #[.int .u64 d.key, .slice (some ⟨b, o, none⟩) d.acc.length c, .slice a2 d.ents.length c2, .int .i64 d.closed], .int .i64 er]) (by simp [results, Try.results45, go_sem, k0, HER.out]) rfl ?_
      exact HP.out _ _ (.inl ⟨by rw [← HE.out, HER.out]; decide, by rw [← HE.out]; rfl, X.out⟩)
  case inr =>
  obtain ⟨i1, i2, j1, j2, hij⟩ := q2
  obtain ⟨i, rfl⟩ := Int.eq_ofNat_of_zero_le i1
  obtain ⟨j, rfl⟩ := Int.eq_ofNat_of_zero_le j1
  replace HPE := Lib.hid hpe
  have hij2 : ((i:Int) == (j:Int)) = false := by simpa using hij
  have hc := HC.out
  have xc := X.out
  have f1 := xc.cellSome (hc i (by omega)).1
  have f2 := xc.cellSome (hc j (by omega)).1
  have f3 := xc.cellSome (hc i (by omega)).2
  have g1 : d.acc[i]'(by omega) = d.at' (i:Int) := by simp [LedD.at', List.getD, show i < d.acc.length by omega]
  have g2 : d.acc[j]'(by omega) = d.at' (j:Int) := by simp [LedD.at', List.getD, show j < d.acc.length by omega]
  rw [g1] at f1 f3
  rw [g2] at f2
  obtain ⟨y1, hy1⟩ : ∃ y, y = (d.at' (i:Int)).good := ⟨_, rfl⟩
  obtain ⟨y2, hy2⟩ : ∃ y, y = (d.at' (j:Int)).good := ⟨_, rfl⟩
  obtain ⟨ys, hys⟩ : ∃ y, y = (d.at' (i:Int)).stock := ⟨_, rfl⟩
  obtain ⟨yb, hyb⟩ : ∃ y, y = balA (i:Int) d.ents := ⟨_, rfl⟩
  rw [← hy1, ← hy2, ← hys, ← hyb] at hpe
  rw [← hy1] at f1
  rw [← hy2] at f2
  rw [← hys] at f3
  have hrb2 := HRB.out (i:Int)
  rw [HBA.out, ← hyb] at hrb2
  replace HPE := Lib.hid hpe
  replace HRB := Lib.hid hrb2
  clear hpe hc g1 g2 xc hij hy1 hy2 hys hyb hrb2
  go_upto_region 6 with (fail)
  rcases HPE.out with ⟨q3, her2⟩ | ⟨q3, hpe⟩
  case inl =>
    have HER := Lib.hid her2
    have q3' : (y1 != y2) = true := by simpa using q3
    clear q3 her2
    go_quiet (fail)
    have hxd : Ext wz (wz.drewN nq) := Ext.of_drewN _ _
    replace b0 := hxd.cellSome b0
    replace b1 := hxd.cellSome b1
    replace b2 := hxd.cellSome b2
    replace b3 := hxd.cellSome b3
    replace e0 := hxd.cellSome e0
    replace e1 := hxd.cellSome e1
    replace e2 := hxd.cellSome e2
    replace e3 := hxd.cellSome e3
    replace f3 := hxd.cellSome f3
    replace RB := Lib.hid (RB.out.ext hxd)
    replace LB := Lib.hid (LB.out.ext hxd)
    replace EB := Lib.hid (EB.out.ext hxd)
    replace X := Lib.hid (X.out.tr hxd)
    generalize wz.drewN nq = wy at *
    obtain ⟨wz, rfl⟩ : ∃ W, W = wy := ⟨wy, rfl⟩
    clear hxd
    go_wp2_with (
      with_reducible refine wpList_storeK (cells := #[.int .u64 d.key, .slice (some ⟨b, o, none⟩) d.acc.length c, .slice a2 d.ents.length c2, .int .i64 d.closed]) rfl rfl RB.out ?_ ?_ ?_ ?_ ?_ ?_
      · rfl
      · rfl
      · kernel_rfl
      · rfl
      · simp [Value.oneCell']
      rintro w5 hb5 ho5
      have hx5 := X.out.then_only ho5 (fun k (e : k = rb) => by rw [e]; exact LR.out)
      have k0 := hb5.cell
      clear X RB
      have X := Lib.hid hx5
      clear hx5
      clear hb5 ho5)
    refine bodyPost_ret (v := .tuple #[.agg #[.int .u64 d.key, .slice (some ⟨b, o, none⟩) d.acc.length c, .slice a2 d.ents.length c2, .int .i64 d.closed], .int .i64 er]) (by simp [results, Try.results45, go_sem, k0, HER.out]) rfl ?_
    exact HP.out _ _ (.inl ⟨by rw [← HE.out, HER.out]; decide, by rw [← HE.out]; rfl, X.out⟩)
  case inr =>
  have q3' : (y1 != y2) = false := by simpa using q3
  replace HPE := Lib.hid hpe
  clear q3 hpe
  go_quiet (fail)
  have hxd : Ext wz (wz.drewN nq) := Ext.of_drewN _ _
  replace b0 := hxd.cellSome b0
  replace b1 := hxd.cellSome b1
  replace b2 := hxd.cellSome b2
  replace b3 := hxd.cellSome b3
  replace e0 := hxd.cellSome e0
  replace e1 := hxd.cellSome e1
  replace e2 := hxd.cellSome e2
  replace e3 := hxd.cellSome e3
  replace f3 := hxd.cellSome f3
  replace RB := Lib.hid (RB.out.ext hxd)
  replace LB := Lib.hid (LB.out.ext hxd)
  replace EB := Lib.hid (EB.out.ext hxd)
  replace X := Lib.hid (X.out.tr hxd)
  generalize wz.drewN nq = wy at *
  obtain ⟨wz, rfl⟩ : ∃ W, W = wy := ⟨wy, rfl⟩
  clear hxd
  go_upto_region 8 with (fail)
  rcases HPE.out with ⟨q4, her2⟩ | ⟨⟨q4a, q4b, q4c, q4d⟩, hpe⟩
  case inl =>
    have HER := Lib.hid her2
    have q5 : xa < 1 ∨ (1 ≤ xa ∧ 1000000000000 < xa) ∨ (1 ≤ xa ∧ xa ≤ 1000000000000 ∧ xd < 0) ∨ (1 ≤ xa ∧ xa ≤ 1000000000000 ∧ 0 ≤ xd ∧ 100000 < xd) := by omega
    clear q4 her2
    rcases q5 with q | ⟨q, r⟩ | ⟨q, r, s⟩ | ⟨q, r, s, t⟩
    · go_wp2_with (
        with_reducible refine wpList_storeK (cells := #[.int .u64 d.key, .slice (some ⟨b, o, none⟩) d.acc.length c, .slice a2 d.ents.length c2, .int .i64 d.closed]) rfl rfl RB.out ?_ ?_ ?_ ?_ ?_ ?_
        · rfl
        · rfl
        · kernel_rfl
        · rfl
        · simp [Value.oneCell']
        rintro w5 hb5 ho5
        have hx5 := X.out.then_only ho5 (fun k (e : k = rb) => by rw [e]; exact LR.out)
        have k0 := hb5.cell
        clear X RB
        have X := Lib.hid hx5
        clear hx5
        clear hb5 ho5)
      refine bodyPost_ret (v := .tuple #[.agg #[.int .u64 d.key, .slice (some ⟨b, o, none⟩) d.acc.length c, .slice a2 d.ents.length c2, .int .i64 d.closed], .int .i64 er]) (by simp [results, Try.results45, go_sem, k0, HER.out]) rfl ?_
      exact HP.out _ _ (.inl ⟨by rw [← HE.out, HER.out]; decide, by rw [← HE.out]; rfl, X.out⟩)
    · go_wp2_with (
        with_reducible refine wpList_storeK (cells := #[.int .u64 d.key, .slice (some ⟨b, o, none⟩) d.acc.length c, .slice a2 d.ents.length c2, .int .i64 d.closed]) rfl rfl RB.out ?_ ?_ ?_ ?_ ?_ ?_
        · rfl
        · rfl
        · kernel_rfl
        · rfl
        · simp [Value.oneCell']
        rintro w5 hb5 ho5
        have hx5 := X.out.then_only ho5 (fun k (e : k = rb) => by rw [e]; exact LR.out)
        have k0 := hb5.cell
        clear X RB
        have X := Lib.hid hx5
        clear hx5
        clear hb5 ho5)
      refine bodyPost_ret (v := .tuple #[.agg #[.int .u64 d.key, .slice (some ⟨b, o, none⟩) d.acc.length c, .slice a2 d.ents.length c2, .int .i64 d.closed], .int .i64 er]) (by simp [results, Try.results45, go_sem, k0, HER.out]) rfl ?_
      exact HP.out _ _ (.inl ⟨by rw [← HE.out, HER.out]; decide, by rw [← HE.out]; rfl, X.out⟩)
    · go_wp2_with (
        with_reducible refine wpList_storeK (cells := #[.int .u64 d.key, .slice (some ⟨b, o, none⟩) d.acc.length c, .slice a2 d.ents.length c2, .int .i64 d.closed]) rfl rfl RB.out ?_ ?_ ?_ ?_ ?_ ?_
        · rfl
        · rfl
        · kernel_rfl
        · rfl
        · simp [Value.oneCell']
        rintro w5 hb5 ho5
        have hx5 := X.out.then_only ho5 (fun k (e : k = rb) => by rw [e]; exact LR.out)
        have k0 := hb5.cell
        clear X RB
        have X := Lib.hid hx5
        clear hx5
        clear hb5 ho5)
      refine bodyPost_ret (v := .tuple #[.agg #[.int .u64 d.key, .slice (some ⟨b, o, none⟩) d.acc.length c, .slice a2 d.ents.length c2, .int .i64 d.closed], .int .i64 er]) (by simp [results, Try.results45, go_sem, k0, HER.out]) rfl ?_
      exact HP.out _ _ (.inl ⟨by rw [← HE.out, HER.out]; decide, by rw [← HE.out]; rfl, X.out⟩)
    · go_wp2_with (
        with_reducible refine wpList_storeK (cells := #[.int .u64 d.key, .slice (some ⟨b, o, none⟩) d.acc.length c, .slice a2 d.ents.length c2, .int .i64 d.closed]) rfl rfl RB.out ?_ ?_ ?_ ?_ ?_ ?_
        · rfl
        · rfl
        · kernel_rfl
        · rfl
        · simp [Value.oneCell']
        rintro w5 hb5 ho5
        have hx5 := X.out.then_only ho5 (fun k (e : k = rb) => by rw [e]; exact LR.out)
        have k0 := hb5.cell
        clear X RB
        have X := Lib.hid hx5
        clear hx5
        clear hb5 ho5)
      refine bodyPost_ret (v := .tuple #[.agg #[.int .u64 d.key, .slice (some ⟨b, o, none⟩) d.acc.length c, .slice a2 d.ents.length c2, .int .i64 d.closed], .int .i64 er]) (by simp [results, Try.results45, go_sem, k0, HER.out]) rfl ?_
      exact HP.out _ _ (.inl ⟨by rw [← HE.out, HER.out]; decide, by rw [← HE.out]; rfl, X.out⟩)
  case inr =>
  replace HPE := Lib.hid hpe
  clear hpe
  go_upto_region 10 with (fail)
  rcases HPE.out with ⟨q5, her2⟩ | ⟨q5, hpe⟩
  case inl =>
    have HER := Lib.hid her2
    clear her2
    go_wp2_with (
      with_reducible refine wpList_storeK (cells := #[.int .u64 d.key, .slice (some ⟨b, o, none⟩) d.acc.length c, .slice a2 d.ents.length c2, .int .i64 d.closed]) rfl rfl RB.out ?_ ?_ ?_ ?_ ?_ ?_
      · rfl
      · rfl
      · kernel_rfl
      · rfl
      · simp [Value.oneCell']
      rintro w5 hb5 ho5
      have hx5 := X.out.then_only ho5 (fun k (e : k = rb) => by rw [e]; exact LR.out)
      have k0 := hb5.cell
      clear X RB
      have X := Lib.hid hx5
      clear hx5
      clear hb5 ho5)
    refine bodyPost_ret (v := .tuple #[.agg #[.int .u64 d.key, .slice (some ⟨b, o, none⟩) d.acc.length c, .slice a2 d.ents.length c2, .int .i64 d.closed], .int .i64 er]) (by simp [results, Try.results45, go_sem, k0, HER.out]) rfl ?_
    exact HP.out _ _ (.inl ⟨by rw [← HE.out, HER.out]; decide, by rw [← HE.out]; rfl, X.out⟩)
  case inr =>
  replace HPE := Lib.hid hpe
  clear hpe
  go_upto_region 12 with (fail)
  rcases HPE.out with ⟨q6, her2⟩ | ⟨q6, hpe⟩
  case inl =>
    have HER := Lib.hid her2
    clear her2
    have HR1 := Lib.hid fun w1 (k : Ext wz w1) => HRL.out w1 (X.out.tr k)
    have hxd : Ext wz wz.drew := (Below.refl _ wz).drew
    refine wp_region_K (fun wx => (∀ q, wx.cell? ⟨lb, q, none⟩ = (#[.int .u64 d.key, .slice (some ⟨b, o, none⟩) d.acc.length c, .slice a2 d.ents.length c2, .int .i64 d.closed] : Array Value)[q]?) ∧ (∀ q, wx.cell? ⟨eb, q, none⟩ = (#[.int .i64 i, .int .i64 j, .int .i64 xa, .int .i64 xd] : Array Value)[q]?)) 5 (by kernel_rfl) ⟨(LB.out.ext hxd).cell, (EB.out.ext hxd).cell⟩ (fun hHeld => ?_)
    have XC := Lib.hid hxd
    clear hxd
    generalize wz.drew = wA at *
    clear b0 b1 b2 b3 e0 e1 e2 e3
    refine wpAnyK_takeL (i := 0) (v := ?_) rfl (by kernel_rfl) (by kernel_rfl) (by kernel_rfl) (by kernel_rfl) (fun _ _ _ h => h) (Or.inl ⟨by rfl, ?_⟩) hHeld ?_
    rotate_left
    · intro w hSw; (try dsimp only at hSw); go_simp; (try with_reducible rfl)
    try simp only [Act.put, List.setIfInBounds_toArray, List.set_cons_zero, List.set_cons_succ]
    refine wpAnyK_takeL (i := 1) (v := ?_) rfl (by kernel_rfl) (by kernel_rfl) (by kernel_rfl) (by kernel_rfl) (fun _ _ _ h => h) (Or.inl ⟨by rfl, ?_⟩) hHeld ?_
    rotate_left
    · intro w hSw; (try dsimp only at hSw); go_simp; (try with_reducible rfl)
    try simp only [Act.put, List.setIfInBounds_toArray, List.set_cons_zero, List.set_cons_succ]
    refine wpAnyK_takeL (i := 2) (v := ?_) rfl (by kernel_rfl) (by kernel_rfl) (by kernel_rfl) (by kernel_rfl) (fun _ _ _ h => h) (Or.inl ⟨by rfl, ?_⟩) hHeld ?_
    rotate_left
    · intro w hSw; (try dsimp only at hSw); go_simp; (try with_reducible rfl)
    try simp only [Act.put, List.setIfInBounds_toArray, List.set_cons_zero, List.set_cons_succ]
    refine wpAnyK_ready (rs := [3]) (by kernel_rfl) (by simp) ?_
    refine AllReadyK.consL (i := 3) rfl (fun K hK => ?_) ?_
    · refine step_call (vs := #[.agg #[.int .u64 d.key, .slice (some ⟨b, o, none⟩) d.acc.length c, .slice a2 d.ents.length c2, .int .i64 d.closed]]) rfl rfl rfl Try.func77 (by kernel_rfl) (by kernel_rfl) (HR1.out _ XC.out) ?_
      rintro e wy ⟨rfl, hx⟩
      refine ⟨_, rfl, ?_⟩
      have hxd := XC.out.tr hx
      clear hx
      refine hK.out _ _ (fun _ => ⟨(LB.out.ext hxd).cell, (EB.out.ext hxd).cell⟩) (fun hHeld2 => ?_)
      clear hK K
      try clear hHeld
      have hHeld := hHeld2 (by decide)
      clear hHeld2
      try simp only [Act.put, List.setIfInBounds_toArray, List.set_cons_zero, List.set_cons_succ]
      refine wpAnyK_takeL (i := 4) (v := ?_) rfl (by kernel_rfl) (by kernel_rfl) (by kernel_rfl) (by kernel_rfl) (fun _ _ _ h => h) (Or.inl ⟨by rfl, ?_⟩) hHeld ?_
      rotate_left
      · intro w hSw; (try dsimp only at hSw); go_simp; (try with_reducible rfl)
      try simp only [Act.put, List.setIfInBounds_toArray, List.set_cons_zero, List.set_cons_succ]
      refine wpAnyK_done (by kernel_rfl) ?_ _
      clear hHeld XC HR1
      replace f3 := hxd.cellSome f3
      replace LB := Lib.hid (LB.out.ext hxd)
      replace EB := Lib.hid (EB.out.ext hxd)
      replace RB := Lib.hid (RB.out.ext hxd)
      replace X := Lib.hid (X.out.tr hxd)
      clear hxd
      obtain ⟨wz, rfl⟩ : ∃ W, W = wy := ⟨wy, rfl⟩
      have b0 := LB.out.cell 0
      have b1 := LB.out.cell 1
      have b2 := LB.out.cell 2
      have b3 := LB.out.cell 3
      have e0 := EB.out.cell 0
      have e1 := EB.out.cell 1
      have e2 := EB.out.cell 2
      have e3 := EB.out.cell 3
      go_wp2_with (
        with_reducible refine wpList_storeK (cells := #[.int .u64 d.key, .slice (some ⟨b, o, none⟩) d.acc.length c, .slice a2 d.ents.length c2, .int .i64 d.closed]) rfl rfl RB.out ?_ ?_ ?_ ?_ ?_ ?_
        · rfl
        · rfl
        · kernel_rfl
        · rfl
        · simp [Value.oneCell']
        rintro w5 hb5 ho5
        have hx5 := X.out.then_only ho5 (fun k (e : k = rb) => by rw [e]; exact LR.out)
        have k0 := hb5.cell
        clear X RB
        have X := Lib.hid hx5
        clear hx5
        clear hb5 ho5)
      refine bodyPost_ret (v := .tuple #[.agg #[.int .u64 d.key, .slice (some ⟨b, o, none⟩) d.acc.length c, .slice a2 d.ents.length c2, .int .i64 d.closed], .int .i64 er]) (by simp [results, Try.results45, go_sem, k0, HER.out]) rfl ?_
      exact HP.out _ _ (.inl ⟨by rw [← HE.out, HER.out]; decide, by rw [← HE.out]; rfl, X.out⟩)
    · exact AllReadyK.nil
  case inr =>
  replace HPE := Lib.hid hpe
  clear hpe
  have HR1 := Lib.hid fun w1 (k : Ext wz w1) => HRL.out w1 (X.out.tr k)
  have hxd : Ext wz wz.drew := (Below.refl _ wz).drew
  refine wp_region_K (fun wx => (∀ q, wx.cell? ⟨lb, q, none⟩ = (#[.int .u64 d.key, .slice (some ⟨b, o, none⟩) d.acc.length c, .slice a2 d.ents.length c2, .int .i64 d.closed] : Array Value)[q]?) ∧ (∀ q, wx.cell? ⟨eb, q, none⟩ = (#[.int .i64 i, .int .i64 j, .int .i64 xa, .int .i64 xd] : Array Value)[q]?)) 5 (by kernel_rfl) ⟨(LB.out.ext hxd).cell, (EB.out.ext hxd).cell⟩ (fun hHeld => ?_)
  have XC := Lib.hid hxd
  clear hxd
  generalize wz.drew = wA at *
  clear b0 b1 b2 b3 e0 e1 e2 e3
  refine wpAnyK_takeL (i := 0) (v := ?_) rfl (by kernel_rfl) (by kernel_rfl) (by kernel_rfl) (by kernel_rfl) (fun _ _ _ h => h) (Or.inl ⟨by rfl, ?_⟩) hHeld ?_
  rotate_left
  · intro w hSw; (try dsimp only at hSw); go_simp; (try with_reducible rfl)
  try simp only [Act.put, List.setIfInBounds_toArray, List.set_cons_zero, List.set_cons_succ]
  refine wpAnyK_takeL (i := 1) (v := ?_) rfl (by kernel_rfl) (by kernel_rfl) (by kernel_rfl) (by kernel_rfl) (fun _ _ _ h => h) (Or.inl ⟨by rfl, ?_⟩) hHeld ?_
  rotate_left
  · intro w hSw; (try dsimp only at hSw); go_simp; (try with_reducible rfl)
  try simp only [Act.put, List.setIfInBounds_toArray, List.set_cons_zero, List.set_cons_succ]
  refine wpAnyK_takeL (i := 2) (v := ?_) rfl (by kernel_rfl) (by kernel_rfl) (by kernel_rfl) (by kernel_rfl) (fun _ _ _ h => h) (Or.inl ⟨by rfl, ?_⟩) hHeld ?_
  rotate_left
  · intro w hSw; (try dsimp only at hSw); go_simp; (try with_reducible rfl)
  try simp only [Act.put, List.setIfInBounds_toArray, List.set_cons_zero, List.set_cons_succ]
  refine wpAnyK_ready (rs := [3]) (by kernel_rfl) (by simp) ?_
  refine AllReadyK.consL (i := 3) rfl (fun K hK => ?_) ?_
  · refine step_call (vs := #[.agg #[.int .u64 d.key, .slice (some ⟨b, o, none⟩) d.acc.length c, .slice a2 d.ents.length c2, .int .i64 d.closed]]) rfl rfl rfl Try.func77 (by kernel_rfl) (by kernel_rfl) (HR1.out _ XC.out) ?_
    rintro e wy ⟨rfl, hx⟩
    refine ⟨_, rfl, ?_⟩
    have hxd := XC.out.tr hx
    clear hx
    refine hK.out _ _ (fun _ => ⟨(LB.out.ext hxd).cell, (EB.out.ext hxd).cell⟩) (fun hHeld2 => ?_)
    clear hK K
    try clear hHeld
    have hHeld := hHeld2 (by decide)
    clear hHeld2
    try simp only [Act.put, List.setIfInBounds_toArray, List.set_cons_zero, List.set_cons_succ]
    refine wpAnyK_takeL (i := 4) (v := ?_) rfl (by kernel_rfl) (by kernel_rfl) (by kernel_rfl) (by kernel_rfl) (fun _ _ _ h => h) (Or.inl ⟨by rfl, ?_⟩) hHeld ?_
    rotate_left
    · intro w hSw; (try dsimp only at hSw); go_simp; (try with_reducible rfl)
    try simp only [Act.put, List.setIfInBounds_toArray, List.set_cons_zero, List.set_cons_succ]
    refine wpAnyK_done (by kernel_rfl) ?_ _
    clear hHeld XC HR1
    replace f3 := hxd.cellSome f3
    replace LB := Lib.hid (LB.out.ext hxd)
    replace EB := Lib.hid (EB.out.ext hxd)
    replace RB := Lib.hid (RB.out.ext hxd)
    replace X := Lib.hid (X.out.tr hxd)
    clear hxd
    obtain ⟨wz, rfl⟩ : ∃ W, W = wy := ⟨wy, rfl⟩
    have b0 := LB.out.cell 0
    have b1 := LB.out.cell 1
    have b2 := LB.out.cell 2
    have b3 := LB.out.cell 3
    have e0 := EB.out.cell 0
    have e1 := EB.out.cell 1
    have e2 := EB.out.cell 2
    have e3 := EB.out.cell 3
    go_upto_region 14 with (fail)
    rcases HPE.out with ⟨q7, q8, her2⟩ | ⟨q7, her0⟩
    case inl =>
      have HER := Lib.hid her2
      clear her2
      have HR1 := Lib.hid fun w1 (k : Ext wz w1) => HRB.out w1 (X.out.tr k)
      have hxd : Ext wz wz.drew := (Below.refl _ wz).drew
      refine wp_region_K (fun wx => (∀ q, wx.cell? ⟨lb, q, none⟩ = (#[.int .u64 d.key, .slice (some ⟨b, o, none⟩) d.acc.length c, .slice a2 d.ents.length c2, .int .i64 d.closed] : Array Value)[q]?) ∧ (∀ q, wx.cell? ⟨eb, q, none⟩ = (#[.int .i64 i, .int .i64 j, .int .i64 xa, .int .i64 xd] : Array Value)[q]?) ∧ wx.cell? ⟨b, o + i * 2 + 1, none⟩ = some (.bool ys)) 16 (by kernel_rfl) ⟨(LB.out.ext hxd).cell, (EB.out.ext hxd).cell, hxd.cellSome f3⟩ (fun hHeld => ?_)
      have XC := Lib.hid hxd
      have F3 := Lib.hid f3
      clear hxd f3
      generalize wz.drew = wA at *
      clear b0 b1 b2 b3 e0 e1 e2 e3
      refine wpAnyK_takeL (i := 0) (v := ?_) rfl (by kernel_rfl) (by kernel_rfl) (by kernel_rfl) (by kernel_rfl) (fun _ _ _ h => h) (Or.inl ⟨by rfl, ?_⟩) hHeld ?_
      rotate_left
      · intro w hSw; (try dsimp only at hSw); go_simp; (try with_reducible rfl)
      try simp only [Act.put, List.setIfInBounds_toArray, List.set_cons_zero, List.set_cons_succ]
      refine wpAnyK_takeL (i := 1) (v := ?_) rfl (by kernel_rfl) (by kernel_rfl) (by kernel_rfl) (by kernel_rfl) (fun _ _ _ h => h) (Or.inl ⟨by rfl, ?_⟩) hHeld ?_
      rotate_left
      · intro w hSw; (try dsimp only at hSw); go_simp; (try with_reducible rfl)
      try simp only [Act.put, List.setIfInBounds_toArray, List.set_cons_zero, List.set_cons_succ]
      refine wpAnyK_takeL (i := 2) (v := ?_) rfl (by kernel_rfl) (by kernel_rfl) (by kernel_rfl) (by kernel_rfl) (fun _ _ _ h => h) (Or.inl ⟨by rfl, ?_⟩) hHeld ?_
      rotate_left
      · intro w hSw; (try dsimp only at hSw); go_simp; (try with_reducible rfl)
      try simp only [Act.put, List.setIfInBounds_toArray, List.set_cons_zero, List.set_cons_succ]
      refine wpAnyK_takeL (i := 3) (v := ?_) rfl (by kernel_rfl) (by kernel_rfl) (by kernel_rfl) (by kernel_rfl) (fun _ _ _ h => h) (Or.inl ⟨by rfl, ?_⟩) hHeld ?_
      rotate_left
      · intro w hSw; (try dsimp only at hSw); go_simp; (try with_reducible rfl)
      try simp only [Act.put, List.setIfInBounds_toArray, List.set_cons_zero, List.set_cons_succ]
      refine wpAnyK_takeL (i := 4) (v := ?_) rfl (by kernel_rfl) (by kernel_rfl) (by kernel_rfl) (by kernel_rfl) (fun _ _ _ h => h) (Or.inl ⟨by rfl, ?_⟩) hHeld ?_
      rotate_left
      · intro w hSw; (try dsimp only at hSw); go_simp; (try with_reducible rfl)
      try simp only [Act.put, List.setIfInBounds_toArray, List.set_cons_zero, List.set_cons_succ]
      refine wpAnyK_takeL (i := 5) (v := ?_) rfl (by kernel_rfl) (by kernel_rfl) (by kernel_rfl) (by kernel_rfl) (fun _ _ _ h => h) (Or.inl ⟨by rfl, ?_⟩) hHeld ?_
      rotate_left
      · intro w hSw; (try dsimp only at hSw); go_simp; (try with_reducible rfl)
      try simp only [Act.put, List.setIfInBounds_toArray, List.set_cons_zero, List.set_cons_succ]
      refine wpAnyK_takeL (i := 6) (v := ?_) rfl (by kernel_rfl) (by kernel_rfl) (by kernel_rfl) (by kernel_rfl) (fun _ _ _ h => h) (Or.inl ⟨by rfl, ?_⟩) hHeld ?_
      rotate_left
      · intro w hSw; (try dsimp only at hSw); go_simp; (try with_reducible rfl)
      try simp only [Act.put, List.setIfInBounds_toArray, List.set_cons_zero, List.set_cons_succ]
      refine wpAnyK_takeL (i := 7) (v := ?_) rfl (by kernel_rfl) (by kernel_rfl) (by kernel_rfl) (by kernel_rfl) (fun _ _ _ h => h) (Or.inl ⟨by rfl, ?_⟩) hHeld ?_
      rotate_left
      · intro w hSw; (try dsimp only at hSw); go_simp; (try with_reducible rfl)
      try simp only [Act.put, List.setIfInBounds_toArray, List.set_cons_zero, List.set_cons_succ]
      subst q7
      refine wpAnyK_takeL (i := 8) (v := ?_) rfl (by kernel_rfl) (by kernel_rfl) (by kernel_rfl) (by kernel_rfl) (fun _ _ _ h => h) (Or.inl ⟨by rfl, ?_⟩) hHeld ?_
      rotate_left
      · intro w hSw; (try dsimp only at hSw); go_simp; (try with_reducible rfl)
      try simp only [Act.put, List.setIfInBounds_toArray, List.set_cons_zero, List.set_cons_succ]
      refine wpAnyK_takeL (i := 9) (v := ?_) rfl (by kernel_rfl) (by kernel_rfl) (by kernel_rfl) (by kernel_rfl) (fun _ _ _ h => h) (Or.inl ⟨by rfl, ?_⟩) hHeld ?_
      rotate_left
      · intro w hSw; (try dsimp only at hSw); go_simp; (try with_reducible rfl)
      try simp only [Act.put, List.setIfInBounds_toArray, List.set_cons_zero, List.set_cons_succ]
      refine wpAnyK_takeL (i := 10) (v := ?_) rfl (by kernel_rfl) (by kernel_rfl) (by kernel_rfl) (by kernel_rfl) (fun _ _ _ h => h) (Or.inl ⟨by rfl, ?_⟩) hHeld ?_
      rotate_left
      · intro w hSw; (try dsimp only at hSw); go_simp; (try with_reducible rfl)
      try simp only [Act.put, List.setIfInBounds_toArray, List.set_cons_zero, List.set_cons_succ]
      refine wpAnyK_takeL (i := 12) (v := ?_) rfl (by kernel_rfl) (by kernel_rfl) (by kernel_rfl) (by kernel_rfl) (fun _ _ _ h => h) (Or.inl ⟨by rfl, ?_⟩) hHeld ?_
      rotate_left
      · intro w hSw; (try dsimp only at hSw); go_simp; (try with_reducible rfl)
      try simp only [Act.put, List.setIfInBounds_toArray, List.set_cons_zero, List.set_cons_succ]
      refine wpAnyK_takeL (i := 13) (v := ?_) rfl (by kernel_rfl) (by kernel_rfl) (by kernel_rfl) (by kernel_rfl) (fun _ _ _ h => h) (Or.inl ⟨by rfl, ?_⟩) hHeld ?_
      rotate_left
      · intro w hSw; (try dsimp only at hSw); go_simp; (try with_reducible rfl)
      try simp only [Act.put, List.setIfInBounds_toArray, List.set_cons_zero, List.set_cons_succ]
      refine wpAnyK_ready (rs := [11]) (by kernel_rfl) (by simp) ?_
      refine AllReadyK.consL (i := 11) rfl (fun K hK => ?_) ?_
      · refine step_call (vs := #[.agg #[.int .u64 d.key, .slice (some ⟨b, o, none⟩) d.acc.length c, .slice a2 d.ents.length c2, .int .i64 d.closed], .int .i64 i, .int .i64 100000]) rfl rfl rfl Try.func78 (by kernel_rfl) (by kernel_rfl) (HR1.out _ XC.out) ?_
        rintro e wy ⟨rfl, hx⟩
        refine ⟨_, rfl, ?_⟩
        have hxd := XC.out.tr hx
        clear hx
        refine hK.out _ _ (fun _ => ⟨(LB.out.ext hxd).cell, (EB.out.ext hxd).cell, hxd.cellSome F3.out⟩) (fun hHeld2 => ?_)
        clear hK K
        try clear hHeld
        have hHeld := hHeld2 (by decide)
        clear hHeld2
        try simp only [Act.put, List.setIfInBounds_toArray, List.set_cons_zero, List.set_cons_succ]
        refine wpAnyK_takeL (i := 14) (v := ?_) rfl (by kernel_rfl) (by kernel_rfl) (by kernel_rfl) (by kernel_rfl) (fun _ _ _ h => h) (Or.inl ⟨by rfl, ?_⟩) hHeld ?_
        rotate_left
        · intro w hSw; (try dsimp only at hSw); go_simp; (try with_reducible rfl)
        try simp only [Act.put, List.setIfInBounds_toArray, List.set_cons_zero, List.set_cons_succ]
        refine wpAnyK_takeL (i := 15) (v := ?_) rfl (by kernel_rfl) (by kernel_rfl) (by kernel_rfl) (by kernel_rfl) (fun _ _ _ h => h) (Or.inl ⟨by rfl, ?_⟩) hHeld ?_
        rotate_left
        · intro w hSw; (try dsimp only at hSw); go_simp; (try with_reducible rfl)
        try simp only [Act.put, List.setIfInBounds_toArray, List.set_cons_zero, List.set_cons_succ]
        refine wpAnyK_done (by kernel_rfl) ?_ _
        clear hHeld XC HR1
        replace LB := Lib.hid (LB.out.ext hxd)
        replace EB := Lib.hid (EB.out.ext hxd)
        replace RB := Lib.hid (RB.out.ext hxd)
        replace X := Lib.hid (X.out.tr hxd)
        clear hxd
        obtain ⟨wz, rfl⟩ : ∃ W, W = wy := ⟨wy, rfl⟩
        have b0 := LB.out.cell 0
        have b1 := LB.out.cell 1
        have b2 := LB.out.cell 2
        have b3 := LB.out.cell 3
        have e0 := EB.out.cell 0
        have e1 := EB.out.cell 1
        have e2 := EB.out.cell 2
        have e3 := EB.out.cell 3
        go_wp2_with (
          with_reducible refine wpList_storeK (cells := #[.int .u64 d.key, .slice (some ⟨b, o, none⟩) d.acc.length c, .slice a2 d.ents.length c2, .int .i64 d.closed]) rfl rfl RB.out ?_ ?_ ?_ ?_ ?_ ?_
          · rfl
          · rfl
          · kernel_rfl
          · rfl
          · simp [Value.oneCell']
          rintro w5 hb5 ho5
          have hx5 := X.out.then_only ho5 (fun k (e : k = rb) => by rw [e]; exact LR.out)
          have k0 := hb5.cell
          clear X RB
          have X := Lib.hid hx5
          clear hx5
          clear hb5 ho5)
        refine bodyPost_ret (v := .tuple #[.agg #[.int .u64 d.key, .slice (some ⟨b, o, none⟩) d.acc.length c, .slice a2 d.ents.length c2, .int .i64 d.closed], .int .i64 er]) (by simp [results, Try.results45, go_sem, k0, HER.out]) rfl ?_
        exact HP.out _ _ (.inl ⟨by rw [← HE.out, HER.out]; decide, by rw [← HE.out]; rfl, X.out⟩)
      · exact AllReadyK.nil
    case inr =>
    have HER := Lib.hid her0
    clear her0
    go_cut [107] (fun v W => v = .bool false ∧ Ext wz W)
    case first =>
      have HR1 := Lib.hid fun w1 (k : Ext wz w1) => HRB.out w1 (X.out.tr k)
      have hxd : Ext wz wz.drew := (Below.refl _ wz).drew
      refine wp_region_K (fun wx => (∀ q, wx.cell? ⟨lb, q, none⟩ = (#[.int .u64 d.key, .slice (some ⟨b, o, none⟩) d.acc.length c, .slice a2 d.ents.length c2, .int .i64 d.closed] : Array Value)[q]?) ∧ (∀ q, wx.cell? ⟨eb, q, none⟩ = (#[.int .i64 i, .int .i64 j, .int .i64 xa, .int .i64 xd] : Array Value)[q]?) ∧ wx.cell? ⟨b, o + i * 2 + 1, none⟩ = some (.bool ys)) 16 (by kernel_rfl) ⟨(LB.out.ext hxd).cell, (EB.out.ext hxd).cell, hxd.cellSome f3⟩ (fun hHeld => ?_)
      have XC := Lib.hid hxd
      have F3 := Lib.hid f3
      clear hxd f3
      generalize wz.drew = wA at *
      clear b0 b1 b2 b3 e0 e1 e2 e3
      refine wpAnyK_takeL (i := 0) (v := ?_) rfl (by kernel_rfl) (by kernel_rfl) (by kernel_rfl) (by kernel_rfl) (fun _ _ _ h => h) (Or.inl ⟨by rfl, ?_⟩) hHeld ?_
      rotate_left
      · intro w hSw; (try dsimp only at hSw); go_simp; (try with_reducible rfl)
      try simp only [Act.put, List.setIfInBounds_toArray, List.set_cons_zero, List.set_cons_succ]
      refine wpAnyK_takeL (i := 1) (v := ?_) rfl (by kernel_rfl) (by kernel_rfl) (by kernel_rfl) (by kernel_rfl) (fun _ _ _ h => h) (Or.inl ⟨by rfl, ?_⟩) hHeld ?_
      rotate_left
      · intro w hSw; (try dsimp only at hSw); go_simp; (try with_reducible rfl)
      try simp only [Act.put, List.setIfInBounds_toArray, List.set_cons_zero, List.set_cons_succ]
      refine wpAnyK_takeL (i := 2) (v := ?_) rfl (by kernel_rfl) (by kernel_rfl) (by kernel_rfl) (by kernel_rfl) (fun _ _ _ h => h) (Or.inl ⟨by rfl, ?_⟩) hHeld ?_
      rotate_left
      · intro w hSw; (try dsimp only at hSw); go_simp; (try with_reducible rfl)
      try simp only [Act.put, List.setIfInBounds_toArray, List.set_cons_zero, List.set_cons_succ]
      refine wpAnyK_takeL (i := 3) (v := ?_) rfl (by kernel_rfl) (by kernel_rfl) (by kernel_rfl) (by kernel_rfl) (fun _ _ _ h => h) (Or.inl ⟨by rfl, ?_⟩) hHeld ?_
      rotate_left
      · intro w hSw; (try dsimp only at hSw); go_simp; (try with_reducible rfl)
      try simp only [Act.put, List.setIfInBounds_toArray, List.set_cons_zero, List.set_cons_succ]
      refine wpAnyK_takeL (i := 4) (v := ?_) rfl (by kernel_rfl) (by kernel_rfl) (by kernel_rfl) (by kernel_rfl) (fun _ _ _ h => h) (Or.inl ⟨by rfl, ?_⟩) hHeld ?_
      rotate_left
      · intro w hSw; (try dsimp only at hSw); go_simp; (try with_reducible rfl)
      try simp only [Act.put, List.setIfInBounds_toArray, List.set_cons_zero, List.set_cons_succ]
      refine wpAnyK_takeL (i := 5) (v := ?_) rfl (by kernel_rfl) (by kernel_rfl) (by kernel_rfl) (by kernel_rfl) (fun _ _ _ h => h) (Or.inl ⟨by rfl, ?_⟩) hHeld ?_
      rotate_left
      · intro w hSw; (try dsimp only at hSw); go_simp; (try with_reducible rfl)
      try simp only [Act.put, List.setIfInBounds_toArray, List.set_cons_zero, List.set_cons_succ]
      refine wpAnyK_takeL (i := 6) (v := ?_) rfl (by kernel_rfl) (by kernel_rfl) (by kernel_rfl) (by kernel_rfl) (fun _ _ _ h => h) (Or.inl ⟨by rfl, ?_⟩) hHeld ?_
      rotate_left
      · intro w hSw; (try dsimp only at hSw); go_simp; (try with_reducible rfl)
      try simp only [Act.put, List.setIfInBounds_toArray, List.set_cons_zero, List.set_cons_succ]
      refine wpAnyK_takeL (i := 7) (v := ?_) rfl (by kernel_rfl) (by kernel_rfl) (by kernel_rfl) (by kernel_rfl) (fun _ _ _ h => h) (Or.inl ⟨by rfl, ?_⟩) hHeld ?_
      rotate_left
      · intro w hSw; (try dsimp only at hSw); go_simp; (try with_reducible rfl)
      try simp only [Act.put, List.setIfInBounds_toArray, List.set_cons_zero, List.set_cons_succ]
      rcases hys : ys with _ | _
      · subst hys
        clear q7
        refine wpAnyK_takeL (i := 8) (v := undef) rfl (by kernel_rfl) (by kernel_rfl) (by kernel_rfl) (by kernel_rfl) (fun _ _ _ h => h) (Or.inr ⟨by rfl, rfl⟩) hHeld ?_
        try simp only [Act.put, List.setIfInBounds_toArray, List.set_cons_zero, List.set_cons_succ]
        refine wpAnyK_takeL (i := 9) (v := undef) rfl (by kernel_rfl) (by kernel_rfl) (by kernel_rfl) (by kernel_rfl) (fun _ _ _ h => h) (Or.inr ⟨by rfl, rfl⟩) hHeld ?_
        try simp only [Act.put, List.setIfInBounds_toArray, List.set_cons_zero, List.set_cons_succ]
        refine wpAnyK_takeL (i := 10) (v := undef) rfl (by kernel_rfl) (by kernel_rfl) (by kernel_rfl) (by kernel_rfl) (fun _ _ _ h => h) (Or.inr ⟨by rfl, rfl⟩) hHeld ?_
        try simp only [Act.put, List.setIfInBounds_toArray, List.set_cons_zero, List.set_cons_succ]
        refine wpAnyK_takeL (i := 11) (v := undef) rfl (by kernel_rfl) (by kernel_rfl) (by kernel_rfl) (by kernel_rfl) (fun _ _ _ h => h) (Or.inr ⟨by rfl, rfl⟩) hHeld ?_
        try simp only [Act.put, List.setIfInBounds_toArray, List.set_cons_zero, List.set_cons_succ]
        refine wpAnyK_takeL (i := 12) (v := undef) rfl (by kernel_rfl) (by kernel_rfl) (by kernel_rfl) (by kernel_rfl) (fun _ _ _ h => h) (Or.inr ⟨by rfl, rfl⟩) hHeld ?_
        try simp only [Act.put, List.setIfInBounds_toArray, List.set_cons_zero, List.set_cons_succ]
        refine wpAnyK_takeL (i := 13) (v := undef) rfl (by kernel_rfl) (by kernel_rfl) (by kernel_rfl) (by kernel_rfl) (fun _ _ _ h => h) (Or.inr ⟨by rfl, rfl⟩) hHeld ?_
        try simp only [Act.put, List.setIfInBounds_toArray, List.set_cons_zero, List.set_cons_succ]
        refine wpAnyK_takeL (i := 14) (v := undef) rfl (by kernel_rfl) (by kernel_rfl) (by kernel_rfl) (by kernel_rfl) (fun _ _ _ h => h) (Or.inr ⟨by rfl, rfl⟩) hHeld ?_
        try simp only [Act.put, List.setIfInBounds_toArray, List.set_cons_zero, List.set_cons_succ]
        refine wpAnyK_takeL (i := 15) (v := ?_) rfl (by kernel_rfl) (by kernel_rfl) (by kernel_rfl) (by kernel_rfl) (fun _ _ _ h => h) (Or.inl ⟨by rfl, ?_⟩) hHeld ?_
        rotate_left
        · intro w hSw; (try dsimp only at hSw); go_simp; (try with_reducible rfl)
        try simp only [Act.put, List.setIfInBounds_toArray, List.set_cons_zero, List.set_cons_succ]
        refine wpAnyK_done (by kernel_rfl) ?_ _
        go_wp2
        go_meet
        case rel => exact ⟨rfl, XC.out⟩
      · have q8 : xa ≤ yb := by
          rcases q7 with h | h
          · rw [hys] at h; cases h
          · exact h
        clear q7
        have q7 : ys = true := hys
        clear hys
        subst q7
        refine wpAnyK_takeL (i := 8) (v := ?_) rfl (by kernel_rfl) (by kernel_rfl) (by kernel_rfl) (by kernel_rfl) (fun _ _ _ h => h) (Or.inl ⟨by rfl, ?_⟩) hHeld ?_
        rotate_left
        · intro w hSw; (try dsimp only at hSw); go_simp; (try with_reducible rfl)
        try simp only [Act.put, List.setIfInBounds_toArray, List.set_cons_zero, List.set_cons_succ]
        refine wpAnyK_takeL (i := 9) (v := ?_) rfl (by kernel_rfl) (by kernel_rfl) (by kernel_rfl) (by kernel_rfl) (fun _ _ _ h => h) (Or.inl ⟨by rfl, ?_⟩) hHeld ?_
        rotate_left
        · intro w hSw; (try dsimp only at hSw); go_simp; (try with_reducible rfl)
        try simp only [Act.put, List.setIfInBounds_toArray, List.set_cons_zero, List.set_cons_succ]
        refine wpAnyK_takeL (i := 10) (v := ?_) rfl (by kernel_rfl) (by kernel_rfl) (by kernel_rfl) (by kernel_rfl) (fun _ _ _ h => h) (Or.inl ⟨by rfl, ?_⟩) hHeld ?_
        rotate_left
        · intro w hSw; (try dsimp only at hSw); go_simp; (try with_reducible rfl)
        try simp only [Act.put, List.setIfInBounds_toArray, List.set_cons_zero, List.set_cons_succ]
        refine wpAnyK_takeL (i := 12) (v := ?_) rfl (by kernel_rfl) (by kernel_rfl) (by kernel_rfl) (by kernel_rfl) (fun _ _ _ h => h) (Or.inl ⟨by rfl, ?_⟩) hHeld ?_
        rotate_left
        · intro w hSw; (try dsimp only at hSw); go_simp; (try with_reducible rfl)
        try simp only [Act.put, List.setIfInBounds_toArray, List.set_cons_zero, List.set_cons_succ]
        refine wpAnyK_takeL (i := 13) (v := ?_) rfl (by kernel_rfl) (by kernel_rfl) (by kernel_rfl) (by kernel_rfl) (fun _ _ _ h => h) (Or.inl ⟨by rfl, ?_⟩) hHeld ?_
        rotate_left
        · intro w hSw; (try dsimp only at hSw); go_simp; (try with_reducible rfl)
        try simp only [Act.put, List.setIfInBounds_toArray, List.set_cons_zero, List.set_cons_succ]
        refine wpAnyK_ready (rs := [11]) (by kernel_rfl) (by simp) ?_
        refine AllReadyK.consL (i := 11) rfl (fun K hK => ?_) ?_
        · refine step_call (vs := #[.agg #[.int .u64 d.key, .slice (some ⟨b, o, none⟩) d.acc.length c, .slice a2 d.ents.length c2, .int .i64 d.closed], .int .i64 i, .int .i64 100000]) rfl rfl rfl Try.func78 (by kernel_rfl) (by kernel_rfl) (HR1.out _ XC.out) ?_
          rintro e wy ⟨rfl, hx⟩
          refine ⟨_, rfl, ?_⟩
          have hxd := XC.out.tr hx
          clear hx
          refine hK.out _ _ (fun _ => ⟨(LB.out.ext hxd).cell, (EB.out.ext hxd).cell, hxd.cellSome F3.out⟩) (fun hHeld2 => ?_)
          clear hK K
          try clear hHeld
          have hHeld := hHeld2 (by decide)
          clear hHeld2
          try simp only [Act.put, List.setIfInBounds_toArray, List.set_cons_zero, List.set_cons_succ]
          refine wpAnyK_takeL (i := 14) (v := ?_) rfl (by kernel_rfl) (by kernel_rfl) (by kernel_rfl) (by kernel_rfl) (fun _ _ _ h => h) (Or.inl ⟨by rfl, ?_⟩) hHeld ?_
          rotate_left
          · intro w hSw; (try dsimp only at hSw); go_simp; (try with_reducible rfl)
          try simp only [Act.put, List.setIfInBounds_toArray, List.set_cons_zero, List.set_cons_succ]
          refine wpAnyK_takeL (i := 15) (v := ?_) rfl (by kernel_rfl) (by kernel_rfl) (by kernel_rfl) (by kernel_rfl) (fun _ _ _ h => h) (Or.inl ⟨by rfl, ?_⟩) hHeld ?_
          rotate_left
          · intro w hSw; (try dsimp only at hSw); go_simp; (try with_reducible rfl)
          try simp only [Act.put, List.setIfInBounds_toArray, List.set_cons_zero, List.set_cons_succ]
          refine wpAnyK_done (by kernel_rfl) ?_ _
          clear hHeld XC HR1
          go_wp2
          go_meet
          case rel => exact ⟨congrArg Value.bool (decide_eq_false (by omega)), hxd⟩
        · exact AllReadyK.nil
    case rest =>
    obtain ⟨rfl, hxd⟩ := hcut
    replace LB := Lib.hid (LB.out.ext hxd)
    replace EB := Lib.hid (EB.out.ext hxd)
    replace RB := Lib.hid (RB.out.ext hxd)
    replace X := Lib.hid (X.out.tr hxd)
    clear hxd f3 b0 b1 b2 b3 e0 e1 e2 e3
    obtain ⟨wz, rfl⟩ : ∃ W, W = wc := ⟨wc, rfl⟩
    have b0 := LB.out.cell 0
    have b1 := LB.out.cell 1
    have b2 := LB.out.cell 2
    have b3 := LB.out.cell 3
    have e0 := EB.out.cell 0
    have e1 := EB.out.cell 1
    have e2 := EB.out.cell 2
    have e3 := EB.out.cell 3
    obtain ⟨sg, hsg⟩ : ∃ s, sigStart d = s := ⟨_, rfl⟩
    have hcase : (d.ents.length = 0 ∧ sg = stepI d.key 1) ∨ ∃ q, d.ents.length = q + 1 ∧ ∃ b o, a2 = some ⟨b, o, none⟩ ∧ wz.cell? ⟨b, o + q * 5 + 4, none⟩ = some (.int .u64 sg) := by
      rcases Nat.eq_zero_or_pos d.ents.length with h0 | h0
      · refine .inl ⟨h0, ?_⟩
        have : d.ents = [] := List.eq_nil_of_length_eq_zero h0
        rw [← hsg]; unfold sigStart; rw [this]; rfl
      · obtain ⟨b, o, ha, hc⟩ := (HS.out.ext X.out).cells h0
        refine .inr ⟨d.ents.length - 1, by omega, b, o, ha, ?_⟩
        have h5 := (hc (d.ents.length - 1) (by omega)).2.2.2.2
        rw [h5, ← hsg]
        unfold sigStart
        have : d.ents.getLast? = some (d.ents[d.ents.length - 1]'(by omega)) := by
          rw [List.getLast?_eq_getElem?]
          exact List.getElem?_eq_getElem (by omega)
        rw [this]
    have HSG := Lib.hid hsg
    have HCA := Lib.hid hcase
    clear hsg hcase
    go_upto_if 115 with (first
      | (go_at_call 37; refine (rstep_any _ _ _).mono ?_; rintro e w' ⟨rfl, rfl⟩))
    go_cut [7] (fun v W => v = .int .u64 sg ∧ Hid (W = wz))
    case first =>
      as_aux_lemma =>
        rcases HCA.out with ⟨h0, rfl⟩ | ⟨q, h0, b', o', rfl, cq⟩
        · have k0 : d.ents.length ≤ 0 := by omega
          clear h0
          go_wp2
          go_meet
          case rel => exact ⟨rfl, rfl⟩
        · have hq5 : q + 1 ≤ 5000 := by omega
          have jq1 : (0:Int) ≤ (q:Int) := by omega
          have jq2 : (q:Int) < (d.ents.length:Int) := by omega
          have jq3 : (d.ents.length:Int) - 1 = (q:Int) := by omega
          have k1 : decide (0 < d.ents.length) = true := decide_eq_true (by omega)
          clear h0
          go_wp2
          go_meet
          case rel => exact ⟨rfl, rfl⟩
    case rest =>
    obtain ⟨rfl, HWC⟩ := hcut
    have hwc := HWC.out
    subst hwc
    clear HWC HCA
    obtain ⟨wz, rfl⟩ : ∃ W, W = wc := ⟨wc, rfl⟩
    go_upto_region 19 with (fail)
    have hi40 : (i:Int) ≤ 40 := by omega
    have hj40 : (j:Int) ≤ 40 := by omega
    go_quiet ((go_at_call 37; exact Calls.quiet_of_same (rstep_q _ _ _)))
    have hxd : Ext wz (wz.drewN nq) := Ext.of_drewN _ _
    replace b0 := hxd.cellSome b0
    replace b1 := hxd.cellSome b1
    replace b2 := hxd.cellSome b2
    replace b3 := hxd.cellSome b3
    replace e0 := hxd.cellSome e0
    replace e1 := hxd.cellSome e1
    replace e2 := hxd.cellSome e2
    replace e3 := hxd.cellSome e3
    replace RB := Lib.hid (RB.out.ext hxd)
    replace LB := Lib.hid (LB.out.ext hxd)
    replace EB := Lib.hid (EB.out.ext hxd)
    replace X := Lib.hid (X.out.tr hxd)
    generalize wz.drewN nq = wy at *
    obtain ⟨wz, rfl⟩ : ∃ W, W = wy := ⟨wy, rfl⟩
    clear hxd
    go_upto_region 20 with (fail)
    go_quiet ((go_at_call 37; exact Calls.quiet_of_same (rstep_q _ _ _)))
    have hxd : Ext wz (wz.drewN nq) := Ext.of_drewN _ _
    replace b0 := hxd.cellSome b0
    replace b1 := hxd.cellSome b1
    replace b2 := hxd.cellSome b2
    replace b3 := hxd.cellSome b3
    replace e0 := hxd.cellSome e0
    replace e1 := hxd.cellSome e1
    replace e2 := hxd.cellSome e2
    replace e3 := hxd.cellSome e3
    replace RB := Lib.hid (RB.out.ext hxd)
    replace LB := Lib.hid (LB.out.ext hxd)
    replace EB := Lib.hid (EB.out.ext hxd)
    replace X := Lib.hid (X.out.tr hxd)
    generalize wz.drewN nq = wy at *
    obtain ⟨wz, rfl⟩ : ∃ W, W = wy := ⟨wy, rfl⟩
    clear hxd
    have hsi : signOf d ⟨i, j, xa, xd⟩ = stepI (stepI (stepI (stepI (stepI sg i) j) xa) xd) d.key := by
      unfold signOf
      rw [HSG.out]
      dsimp only
      rw [uw_in i (by omega), uw_in j (by omega), uw_in xa (by omega), uw_in xd (by omega)]
    obtain ⟨si, hsi2⟩ : ∃ s, s = signOf d ⟨i, j, xa, xd⟩ := ⟨_, rfl⟩
    have HSI := Lib.hid hsi2
    have HSQ := Lib.hid (hsi2.trans hsi)
    clear hsi hsi2 HSG
    have HSZ := Lib.hid (HS.out.ext X.out)
    have WZ := Lib.hid X.out.size
    have X0 : Hid (Ext wz wz) := Below.refl _ _
    go_upto_region 24 with (first
      | (go_at_call 37; refine (rstep_any _ _ _).mono ?_; rintro e w' ⟨rfl, rfl⟩; rw [← HSQ.out]; clear HSQ)
      | (with_reducible refine wpList_build0 tRSigs rfl rfl ?_
         rintro v0 wv hxv hov
         clear X0 b0 b1 b2 b3 e0 e1 e2 e3
         have b2 := (LB.out.ext hxv).cell 2
         have XV := Lib.hid hxv
         have V0 := Lib.hid hov
         clear hxv hov)
      | (have hv0 := V0.out
         at_builtin
         refine wpList_app tRSigs rfl rfl rfl hv0 rfl (StIn.src sigC_len (by omega) (HSZ.out.ext XV.out)) (fl_one sigC_one d.ents) (by omega) XV.out.size ?_
         rintro v1 wv1 h1 h2 h3
         have hx1 := ext_grown XV.out V0.out h2
         rw [Nat.zero_add, List.nil_append] at h1
         obtain ⟨a3, c3, rfl⟩ := row_form h1
         clear V0 XV hv0 h2 h3 b2
         have e0 := (EB.out.ext hx1).cell 0
         have e1 := (EB.out.ext hx1).cell 1
         have e2 := (EB.out.ext hx1).cell 2
         have e3 := (EB.out.ext hx1).cell 3
         have V1 := Lib.hid h1
         have XW := Lib.hid hx1
         clear h1 hx1)
      | (have hv1 := V1.out
         at_builtin
         refine wpList_app tRSigs rfl rfl rfl (owns_ext hv1 (ext_lit _ _ _)) rfl (Src.lit _ [.int .i64 i, .int .i64 j, .int .i64 xa, .int .i64 xd, .int .u64 si] 1 5 rfl 145 1) (by simp [Value.oneCell']) (by omega) (Nat.le_trans XW.out.size (by simp)) ?_
         rintro v2 wv2 h1 h2 h3
         have hx1 := ext_grown (XW.out.tr (ext_lit _ _ _)) (owns_ext V1.out (ext_lit _ _ _)) h2
         obtain ⟨a4, c4, rfl⟩ := row_form h1
         have lb2 := LB.out.ext hx1
         have rb2 := RB.out.ext hx1
         have hx2 := X.out.tr hx1
         have nlv : ∀ k, (Value.slice a4 (d.ents.length + 1) c4).ownBlock = some k → k ≠ lb := fun k hk e => by
           have h5 := (h1.lt k hk).1
           have h6 := LB.out.lt
           omega
         have NLV := Lib.hid nlv
         clear nlv
         have nrv : ∀ k, (Value.slice a4 (d.ents.length + 1) c4).ownBlock = some k → k ≠ rb := fun k hk e => by
           have h5 := (h1.lt k hk).1
           have h6 := RB.out.lt
           omega
         have NRV := Lib.hid nrv
         clear nrv
         clear V1 XW hv1 h2 h3 e0 e1 e2 e3 LB EB RB X
         have V2 := Lib.hid h1
         have LB := Lib.hid lb2
         have RB := Lib.hid rb2
         have X := Lib.hid hx2
         have XW := Lib.hid hx1
         clear h1 lb2 rb2 hx2 hx1)
      | (have hb2 := LB.out
         with_reducible refine wpList_setK (i := 2) (v := .slice a4 (d.ents.length + 1) c4) rfl rfl hb2 ?_ ?_ ?_ ?_ ?_ ?_ ?_
         · rfl
         · rfl
         · show 2 < 4; omega
         · kernel_rfl
         · rfl
         · rfl
         rintro w5 hb5 ho5
         have hb6 : Blk w5 lb #[.int .u64 d.key, .slice (some ⟨b, o, none⟩) d.acc.length c, .slice a4 (d.ents.length + 1) c4, .int .i64 d.closed] 81 := hb5
         have hx5 := X.out.then_only ho5 (fun k (e : k = lb) => by rw [e]; exact LL.out)
         have rb5 := RB.out.only ho5 (fun e => absurd NRL.out (by rw [e]; exact Nat.lt_irrefl _))
         have v5 := owns_only V2.out ho5 (fun k hk e => NLV.out k hk e)
         have b0 := hb6.cell 0
         have b1 := hb6.cell 1
         have b2 := hb6.cell 2
         have b3 := hb6.cell 3
         clear V2 LB RB X hb2 hb5 hb6 ho5
         have V2 := Lib.hid v5
         have RB := Lib.hid rb5
         have X := Lib.hid hx5
         clear v5 rb5 hx5))
    have LEN : Hid (d.ents.length + 1 ≤ 9223372036854775807) := by show d.ents.length + 1 ≤ 9223372036854775807; omega
    go_wp2_with (
      with_reducible refine wpList_storeK (cells := #[.int .u64 d.key, .slice (some ⟨b, o, none⟩) d.acc.length c, .slice a4 (d.ents.length + 1) c4, .int .i64 d.closed]) rfl rfl RB.out ?_ ?_ ?_ ?_ ?_ ?_
      · rfl
      · rfl
      · kernel_rfl
      · rfl
      · simp [Value.oneCell']
      rintro w6 hb6 ho6
      have hx6 := X.out.then_only ho6 (fun k (e : k = rb) => by rw [e]; exact LR.out)
      have v6 := owns_only V2.out ho6 (fun k hk e => NRV.out k hk e)
      have k0 := hb6.cell
      clear X RB V2
      have X := Lib.hid hx6
      have V2 := Lib.hid v6
      clear hx6 v6
      clear hb6 ho6)
    refine bodyPost_ret (v := .tuple #[.agg #[.int .u64 d.key, .slice (some ⟨b, o, none⟩) d.acc.length c, .slice a4 (d.ents.length + 1) c4, .int .i64 d.closed], .int .i64 0]) (by simp [results, Try.results45, go_sem, k0]) rfl ?_
    refine HP.out _ _ (.inr ⟨by rw [← HE.out, HER.out], _, rfl, ?_, fun bb hbb => Nat.le_trans WZ.out (V2.out.lt bb hbb).1, X.out⟩)
    have e1 : (postD d ⟨i, j, xa, xd⟩).ents.length = d.ents.length + 1 := by simp [postD]
    have e2 : (postD d ⟨i, j, xa, xd⟩).ents.flatMap sigC = d.ents.flatMap sigC ++ sigC ⟨⟨i, j, xa, xd⟩, signOf d ⟨i, j, xa, xd⟩⟩ := by simp [postD]
    have v7 := V2.out
    rw [HSI.out] at v7
    refine StIn.of_owns sigC_len (B := wz.heap.size) (e := 145) (by rw [e1, e2]; exact v7) (by rw [e1]; exact LEN.out)
  · exact AllReadyK.nil
end Go.Proofs.Ytekplfbfkfiabaa
