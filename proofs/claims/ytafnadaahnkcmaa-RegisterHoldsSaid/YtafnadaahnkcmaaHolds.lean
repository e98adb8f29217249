/- RegisterHolds: the walk. -/
import Derived.Test.YtafnadaahnkcmaaHold
import Derived.Test.YtafnadaahnkcmaaCtl
namespace Go.Proofs.Ytafnadaahnkcmaa
open Go.RowKit
set_option linter.unusedVariables false

theorem settle_pos (l : Loop) (e : Int) (hl : l.Ok) : l.dead + 1 ≤ l.settle e := by
  unfold Loop.settle
  split
  · omega
  · rename_i h
    have : 0 ≤ (l.over e + l.gain - 1) / l.gain := by
      unfold Loop.Ok at hl
      rcases Int.lt_or_le 0 l.gain with hg | hg
      · exact Int.ediv_nonneg (by omega) (by omega)
      · have : l.gain = 0 := by unfold Loop.gain at *; omega
        rw [this]; simp
    omega

/-- From the settling time on the error is within the bound. -/
theorem settle_holds (l : Loop) (e : Int) (hl : l.Ok) (hg : l.over e ≤ 0 ∨ l.gain ≠ 0) (ns bs : List Int) (hn : ∀ x ∈ ns, -l.noise ≤ x ∧ x ≤ l.noise) (hb : ∀ x ∈ bs, -l.blur ≤ x ∧ x ≤ l.blur) (t : Nat) (ht : l.settle e ≤ t) :
    -((l.dead + 1) * l.noise + l.blur) ≤ (plSt l.step e l.dead.toNat (gD ns) (gD bs) t).1 ∧ (plSt l.step e l.dead.toNat (gD ns) (gD bs) t).1 ≤ (l.dead + 1) * l.noise + l.blur := by
  have hl' := hl
  unfold Loop.Ok at hl
  obtain ⟨⟨a1, a2⟩, ⟨a3, a4⟩, ⟨a5, a6⟩, a7, a8, a9⟩ := hl
  have hd : ((l.dead.toNat : Nat) : Int) = l.dead := by omega
  have key : ∀ m : Nat, max e (-e) - m * (l.step - l.noise) ≤ l.step - l.blur → (m : Int) + 1 + l.dead ≤ t →
      -((l.dead + 1) * l.noise + l.blur) ≤ (plSt l.step e l.dead.toNat (gD ns) (gD bs) t).1 ∧ (plSt l.step e l.dead.toNat (gD ns) (gD bs) t).1 ≤ (l.dead + 1) * l.noise + l.blur := fun m hm hmt => by
    have h := loop_holds (e0 := e) (D := l.dead.toNat) a3 a5 a7 (fun k => gD_bd a3 hn k) (fun k => gD_bd a5 hb k) m hm t (by omega)
    rw [hd] at h
    exact h
  unfold Loop.settle at ht
  by_cases ho : l.over e ≤ 0
  · rw [if_pos ho] at ht
    exact key 0 (by unfold Loop.over at ho; simp; omega) (by omega)
  · rw [if_neg ho] at ht
    have hg' : 1 ≤ l.gain := by have := hg.resolve_left ho; unfold Loop.gain at *; omega
    have q0 : 0 ≤ (l.over e + l.gain - 1) / l.gain := Int.ediv_nonneg (by omega) (by omega)
    have q1 := Int.emod_add_mul_ediv (l.over e + l.gain - 1) l.gain
    have q2 := Int.emod_lt_of_pos (l.over e + l.gain - 1) (show 0 < l.gain by omega)
    obtain ⟨m, hm⟩ := Int.eq_ofNat_of_zero_le q0
    refine key m ?_ (by omega)
    rw [hm] at q1
    have e1 : (m : Int) * (l.step - l.noise) = l.gain * m := Int.mul_comm _ _
    rw [e1]
    generalize l.gain * (m : Int) = z at *
    unfold Loop.over at *
    omega

set_option maxRecDepth 100000 in
set_option maxHeartbeats 8000000 in
theorem holds_true (dead noise blur step e : Int) (xs : List Int) (va : Value) (w : World) (h1 : I64 dead) (h2 : I64 noise) (h3 : I64 blur) (h4 : I64 step) (h5 : I64 e) (ha : Ints w va xs) (hxb : ∀ x ∈ xs, I64 x) :
    Calls Try.prog 4 #[.int .i64 dead, .int .i64 noise, .int .i64 blur, .int .i64 step, .int .i64 e, va] w fun x w' => x = .returned (.bool true) ∧ Ext w w' := by
  obtain ⟨aa, ca, rfl, HA⟩ := ha.form
  have HXB := Lib.hid hxb
  have hxlen := ha.len
  have HL := Lib.hid (loop_ex dead noise blur step w h1 h2 h3 h4)
  unfold I64 at h5
  clear ha hxb h1 h2 h3 h4
  go_enter Try.func4, Try.ntmps4
  go_upto_region 2 with (first
    | (go_at_call 14
       refine HL.out.mono ?_
       rintro x w1 ⟨⟨⟨d, n, b, s⟩, hok, rfl⟩, hx1⟩
       unfold Loop.val
       dsimp only
       have HOK := Lib.hid hok
       have HX1 := Lib.hid hx1
       clear hok hx1 HL)
    | (with_reducible refine wpList_alloc rfl rfl Try.zeroValue36 ?_
       rintro lb w2 ⟨hb2, hx2, hl2⟩
       have HB2 := Lib.hid hb2
       have L2 := Lib.hid hl2
       have HX2 := Lib.hid (HX1.out.tr hx2)
       clear hb2 hx2 hl2)
    | (with_reducible refine wpList_storeB (b := lb) (cells := #[.int .i64 d, .int .i64 n, .int .i64 b, .int .i64 s]) rfl rfl ?_ ?_ HB2.out ?_ ?_ ?_ ?_
       · rfl
       · rfl
       · kernel_rfl
       · rfl
       · simp [Value.oneCell']
       rintro w3 hb3 ho3
       have HB3 := Lib.hid hb3
       have HX3 := Lib.hid (HX2.out.then_only ho3 (fun k (hk : k = lb) => by have := L2.out; have := HX1.out.size; omega))
       clear hb3 ho3 HB2 HX2))
  by_cases h400 : 400 < xs.length
  · have hd4 : decide ((400:Int) < (xs.length:Int)) = true := decide_eq_true (by omega)
    go_wp2_with (go_at_call 9; refine (awake_true _).mono ?_; rintro x w4 ⟨rfl, hx4⟩; have HX4 := Lib.hid (HX3.out.tr hx4); clear hx4)
    go_ret
    exact ⟨rfl, HX4.out⟩
  have hd4 : decide ((400:Int) < (xs.length:Int)) = false := decide_eq_false (by omega)
  have c3 : ∀ i, w3.cell? ⟨lb, i, none⟩ = (#[.int .i64 d, .int .i64 n, .int .i64 b, .int .i64 s] : Array Value)[i]? := blk_cell HB3.out
  go_upto_region 5 with (fail)
  have te : -1000000 ≤ e.tmod 1000001 ∧ e.tmod 1000001 ≤ 1000000 := by
    have h1 := Int.tmod_lt_of_pos e (show (0:Int) < 1000001 by omega)
    have h2 := Int.tmod_lt_of_pos (-e) (show (0:Int) < 1000001 by omega)
    rw [Int.neg_tmod] at h2
    omega
  generalize e.tmod 1000001 = e1 at *
  clear h5 hd4
  have hok := HOK.out
  unfold Loop.Ok at hok
  dsimp only at hok
  obtain ⟨⟨a1, a2⟩, ⟨a3, a4⟩, ⟨a5, a6⟩, a7, a8, a9⟩ := hok
  obtain ⟨te1, te2⟩ := te
  have hnb : 0 ≤ (d + 1) * n ∧ (d + 1) * n ≤ 21000 := by
    refine ⟨Int.mul_nonneg (by omega) a3, ?_⟩
    have := Int.mul_le_mul (show d + 1 ≤ 21 by omega) (show n ≤ 1000 by omega) a3 (by omega)
    omega
  obtain ⟨nb, hnbe⟩ : ∃ nb, (d + 1) * n = nb := ⟨_, rfl⟩
  rw [hnbe] at hnb
  obtain ⟨nb1, nb2⟩ := hnb
  have HNB := Lib.hid hnbe
  have e1 : IntKind.i64.wrap ((d + 1) * n) = nb := by rw [hnbe]; exact i64_eq _ (by omega)
  have E1 := Lib.hid e1
  have e2 : wrap64 ((d + 1) * n) = nb := by rw [hnbe]; unfold wrap64; omega
  have E2 := Lib.hid e2
  clear hnbe e1 e2
  have hbd0 := bound_ok ⟨d, n, b, s⟩ w3 HOK.out
  unfold Loop.val at hbd0
  dsimp only at hbd0
  rw [HNB.out] at hbd0
  have HBD := Lib.hid hbd0
  clear hbd0
  by_cases hg : (⟨d, n, b, s⟩ : Loop).over e1 ≤ 0 ∨ (⟨d, n, b, s⟩ : Loop).gain ≠ 0
  · have HG := Lib.hid hg
    have hsp := settle_pos ⟨d, n, b, s⟩ e1 HOK.out
    dsimp only at hsp
    obtain ⟨sn, hsn⟩ := Int.eq_ofNat_of_zero_le (show 0 ≤ (⟨d, n, b, s⟩ : Loop).settle e1 by omega)
    have hse0 := fun w4 => settle_ok ⟨d, n, b, s⟩ e1 w4 HOK.out ⟨te1, te2⟩ hg
    unfold Loop.val at hse0
    dsimp only at hse0
    rw [hsn] at hse0 hsp
    have HSE := fun w4 => Lib.hid (hse0 w4)
    clear hse0
    have hov : (⟨d, n, b, s⟩ : Loop).over e1 ≤ 0 → (sn : Int) = d + 1 := fun h => by rw [← hsn]; unfold Loop.settle; rw [if_pos h]
    have hov2 : ¬ (⟨d, n, b, s⟩ : Loop).over e1 ≤ 0 → d + 1 < (sn : Int) := fun h => by
      rw [← hsn]; unfold Loop.settle; rw [if_neg h]; dsimp only
      have h1 : 1 ≤ (⟨d, n, b, s⟩ : Loop).gain := by have := hg.resolve_left h; unfold Loop.gain at *; dsimp only at *; omega
      have h2 : 1 ≤ ((⟨d, n, b, s⟩ : Loop).over e1 + (⟨d, n, b, s⟩ : Loop).gain - 1) / (⟨d, n, b, s⟩ : Loop).gain := by
        rw [Int.le_ediv_iff_mul_le (by omega)]; omega
      omega
    have HOV := Lib.hid hov
    have HOV2 := Lib.hid hov2
    have HSN := Lib.hid hsn
    have e1' := E1.out
    have e2' := E2.out
    clear hg hsn hov hov2
    go_upto_region 11 with (first
      | (go_at_call 15
         refine HBD.out.mono ?_
         rintro x w4 ⟨rfl, hx4⟩
         have c4 : ∀ i, w4.cell? ⟨lb, i, none⟩ = (#[.int .i64 d, .int .i64 n, .int .i64 b, .int .i64 s] : Array Value)[i]? := blk_cell (hx4.blk HB3.out)
         have HB4 := Lib.hid (hx4.blk HB3.out)
         have HX4 := Lib.hid (HX3.out.tr hx4)
         clear hx4)
      | (go_at_call 16
         refine (HSE _).out.mono ?_
         rintro x w5 ⟨rfl, hx5⟩
         have c5 : ∀ i, w5.cell? ⟨lb, i, none⟩ = (#[.int .i64 d, .int .i64 n, .int .i64 b, .int .i64 s] : Array Value)[i]? := blk_cell (hx5.blk HB4.out)
         have HB5 := Lib.hid (hx5.blk HB4.out)
         have HX5 := Lib.hid (HX4.out.tr hx5)
         clear hx5))
    clear c3 c4 e1' e2'
    by_cases h2000 : (2000 : Int) < (sn : Int)
    · go_wp2_with (go_at_call 9; refine (awake_true _).mono ?_; rintro x w6 ⟨rfl, hx6⟩; have HX6 := Lib.hid (HX5.out.tr hx6); clear hx6)
      go_ret
      exact ⟨rfl, HX6.out⟩
    go_upto_region 14 with (fail)
    have f1 : ((sn:Int) + 100).toNat = sn + 100 := by omega
    have F1 := Lib.hid f1
    clear f1
    go_region_held3 (fun wr => ∀ i, wr.cell? ⟨lb, i, none⟩ = (#[.int .i64 d, .int .i64 n, .int .i64 b, .int .i64 s] : Array Value)[i]?)
      ((first | (with_reducible exact st8) | (with_reducible exact st7) | (with_reducible exact st6) | (simp only [World.cell?_drew]; with_reducible assumption)))
      ((first
        | (have hgd := HX5.out
           go_at_call 18
           refine (numbers_ex xs _ ((sn:Int) + 100) n 0 w5.drew ((HA.out.ext HX5.out).ext (Ext.of_drewN _ 1)) (by omega) HXB.out (by omega) (by omega) (by omega)).mono ?_
           rintro x w6 ⟨v1, ns, rfl, ho6, hl6, hn6, hx6⟩
           rw [F1.out] at hl6 ho6
           have hx6' : Ext w5 w6 := (Ext.of_drewN w5 1).tr hx6
           have st6 : ∀ i, w6.cell? ⟨lb, i, none⟩ = (#[.int .i64 d, .int .i64 n, .int .i64 b, .int .i64 s] : Array Value)[i]? := blk_cell (hx6'.blk HB5.out)
           have HB6 := Lib.hid (hx6'.blk HB5.out)
           have HX6 := Lib.hid (HX5.out.tr hx6')
           have HN6 : Hid (Ints w6 v1 ns) := Sl.of_owns ho6
           have HL6 := Lib.hid hl6
           have HM6 := Lib.hid hn6
           clear hx6 hx6' ho6 hl6 hn6 HX5 hgd)
        | (have hgd := HX6.out
           go_at_call 18
           refine (numbers_ex xs _ ((sn:Int) + 100) b 1 w6 (HA.out.ext HX6.out) (by omega) HXB.out (by omega) (by omega) (by omega)).mono ?_
           rintro x w7 ⟨v2, bs, rfl, ho7, hl7, hn7, hx7⟩
           rw [F1.out] at hl7 ho7
           have st7 : ∀ i, w7.cell? ⟨lb, i, none⟩ = (#[.int .i64 d, .int .i64 n, .int .i64 b, .int .i64 s] : Array Value)[i]? := blk_cell (hx7.blk HB6.out)
           have HB7 := Lib.hid (hx7.blk HB6.out)
           have HX7 := Lib.hid (HX6.out.tr hx7)
           have HN7 := Lib.hid (HN6.out.ext hx7)
           have HP7 : Hid (Ints w7 v2 bs) := Sl.of_owns ho7
           have HL7 := Lib.hid hl7
           have HM7 := Lib.hid hn7
           clear hx7 ho7 hl7 hn7 HX6 hgd)
        | (go_at_call 17
           refine (play_ok ⟨d, n, b, s⟩ e1 ns bs v1 v2 w7 HOK.out ⟨te1, te2⟩ HN7.out HP7.out (HL6.out.trans HL7.out.symm) (by have := HL6.out; omega) HM6.out HM7.out).mono ?_
           rintro x w8 ⟨v3, rfl, ho8, hx8⟩
           have st8 : ∀ i, w8.cell? ⟨lb, i, none⟩ = (#[.int .i64 d, .int .i64 n, .int .i64 b, .int .i64 s] : Array Value)[i]? := blk_cell (hx8.blk HB7.out)
           rw [HL6.out] at ho8
           have HX8 := Lib.hid (HX7.out.tr hx8)
           have HQ8 := Lib.hid (Moms.of_owns ho8)
           clear hx8 ho8 HX7)))
    go_split_ands
    obtain ⟨_, am, cm, rfl, hq⟩ := HQ8.out
    obtain ⟨b9, o9, rfl, hcl⟩ := hq (by omega)
    have HC := Lib.hid hcl
    have k0 : w8.cell? ⟨b9, o9, none⟩ = some (.int .i64 e1) := (hcl 0 (by omega)).1
    have hlen1 : (((sn + 100 : Nat) : Int) != (sn:Int) + 100) = false := by simp
    have hS8 := Lib.hid st8
    clear hcl hq st8 st7 st6
    go_wp2
    go_loopw [21] (fun t wr => ∃ k : Nat, k ≤ sn + 100 ∧ t = .int .i64 k ∧ Hid (∃ n, wr = w8.drewN n)) (fun t _ => sn + 100 - (intOf t).toNat)
    case atStart => exact ⟨0, Nat.zero_le _, rfl, 0, rfl⟩
    case round =>
      obtain ⟨k, hk, rfl, HW⟩ := hrel
      have HXR : Hid (Ext w8 wr) := by obtain ⟨n, hn⟩ := HW.out; rw [hn]; exact Ext.of_drewN _ _
      have cS : ∀ i v, w8.cell? ⟨lb, i, none⟩ = some v → wr.cell? ⟨lb, i, none⟩ = some v := fun i v h => HXR.out.cellSome h
      have l0 : wr.cell? ⟨lb, 0, none⟩ = some (.int .i64 d) := cS _ _ (by rw [hS8.out]; rfl)
      have l2 : wr.cell? ⟨lb, 2, none⟩ = some (.int .i64 b) := cS _ _ (by rw [hS8.out]; rfl)
      have l3 : wr.cell? ⟨lb, 3, none⟩ = some (.int .i64 s) := cS _ _ (by rw [hS8.out]; rfl)
      clear cS
      by_cases hlt : k < sn + 100
      · obtain ⟨er, hker⟩ : ∃ er, er = (plSt s e1 d.toNat (gD ns) (gD bs) k).1 := ⟨_, rfl⟩
        obtain ⟨mv, hkmv⟩ : ∃ mv, mv = plMove s e1 d.toNat (gD ns) (gD bs) k := ⟨_, rfl⟩
        have q1 : wr.cell? ⟨b9, o9 + k * 2, none⟩ = some (.int .i64 er) := by rw [hker]; exact HXR.out.cellSome (HC.out k hlt).1
        have q2 : wr.cell? ⟨b9, o9 + k * 2 + 1, none⟩ = some (.int .i64 mv) := by rw [hkmv]; exact HXR.out.cellSome (HC.out k hlt).2
        obtain ⟨m1, m2⟩ : -s ≤ mv ∧ mv ≤ s := by rw [hkmv]; exact clamp_bd _ _ (by omega)
        have d1 : decide (s < mv) = false := decide_eq_false (by omega)
        have d2 : decide (mv < -s) = false := decide_eq_false (by omega)
        have j1 : (0:Int) ≤ (k:Int) := by omega
        have j2 : (k:Int) < (sn:Int) + 100 := by omega
        have hbd : (sn:Int) ≤ (k:Int) → -(nb + b) ≤ er ∧ er ≤ nb + b := fun h => by
          rw [hker, ← HNB.out]
          exact settle_holds ⟨d, n, b, s⟩ e1 HOK.out HG.out ns bs HM6.out HM7.out k (by rw [HSN.out]; exact h)
        have HBB := Lib.hid hbd
        clear hker hkmv hbd
        by_cases hge : (sn:Int) ≤ (k:Int)
        · obtain ⟨g1, g2⟩ := HBB.out hge
          have d3 : decide (nb + b < er) = false := decide_eq_false (by omega)
          have d4 : decide (er < -(nb + b)) = false := decide_eq_false (by omega)
          go_wp2
          go_quiet (fail)
          go_wp2
          go_roundw
          case rel => exact ⟨k + 1, by omega, by go_num, by obtain ⟨n, hn⟩ := HW.out; exact ⟨n + nq, by rw [hn]; exact World.drewN_drewN ..⟩⟩
          case measure => simp [intOf]; omega
        · go_wp2
          go_quiet (fail)
          go_wp2
          go_roundw
          case rel => exact ⟨k + 1, by omega, by go_num, by obtain ⟨n, hn⟩ := HW.out; exact ⟨n + nq, by rw [hn]; exact World.drewN_drewN ..⟩⟩
          case measure => simp [intOf]; omega
      · have hd : ¬ (k:Int) < (sn:Int) + 100 := by omega
        by_cases ho : (⟨d, n, b, s⟩ : Loop).over e1 ≤ 0
        · have hsn := HOV.out ho
          have h6 : e1 ≤ s - b ∧ -e1 ≤ s - b := by unfold Loop.over at ho; dsimp only at ho; omega
          obtain ⟨h7, h8⟩ := h6
          have d5 : decide (d + 1 < (sn:Int)) = false := decide_eq_false (by omega)
          clear ho hsn
          go_wp2_with (go_at_call 9; refine (awake_true _).mono ?_; rintro x w9 ⟨rfl, hx9⟩; have HX9 := Lib.hid ((HX8.out.tr HXR.out).tr hx9); clear hx9)
          go_ret
          exact ⟨rfl, HX9.out⟩
        · have hsn := HOV2.out (by omega)
          have d5 : decide (d + 1 < (sn:Int)) = true := decide_eq_true (by omega)
          clear ho
          go_wp2_with (go_at_call 9; refine (awake_true _).mono ?_; rintro x w9 ⟨rfl, hx9⟩; have HX9 := Lib.hid ((HX8.out.tr HXR.out).tr hx9); clear hx9)
          go_ret
          exact ⟨rfl, HX9.out⟩
  · have hg1 : 0 < (⟨d, n, b, s⟩ : Loop).over e1 := by omega
    have hg2 : (⟨d, n, b, s⟩ : Loop).gain = 0 := by omega
    have HSE := fun w4 => Lib.hid (settle_none ⟨d, n, b, s⟩ e1 w4 HOK.out ⟨te1, te2⟩ hg1 hg2)
    unfold Loop.val at HSE
    dsimp only at HSE
    have hsn : (s == n) = true := by unfold Loop.gain at hg2; dsimp only at hg2; simp; omega
    clear hg hg1 hg2
    have e1' := E1.out
    have e2' := E2.out
    go_wp2_with (first
      | (go_at_call 15
         refine HBD.out.mono ?_
         rintro x w4 ⟨rfl, hx4⟩
         have c4 : ∀ i, w4.cell? ⟨lb, i, none⟩ = (#[.int .i64 d, .int .i64 n, .int .i64 b, .int .i64 s] : Array Value)[i]? := blk_cell (hx4.blk HB3.out)
         have HB4 := Lib.hid (hx4.blk HB3.out)
         have HX4 := Lib.hid (HX3.out.tr hx4)
         clear hx4)
      | (go_at_call 16
         refine (HSE _).out.mono ?_
         rintro x w5 ⟨rfl, hx5⟩
         have c5 : ∀ i, w5.cell? ⟨lb, i, none⟩ = (#[.int .i64 d, .int .i64 n, .int .i64 b, .int .i64 s] : Array Value)[i]? := blk_cell (hx5.blk HB4.out)
         have HX5 := Lib.hid (HX4.out.tr hx5)
         clear hx5)
      | (go_at_call 9; refine (awake_true _).mono ?_; rintro x w6 ⟨rfl, hx6⟩; have HX6 := Lib.hid (HX5.out.tr hx6); clear hx6))
    go_ret
    exact ⟨rfl, HX6.out⟩
end Go.Proofs.Ytafnadaahnkcmaa
