/- RegisterReaches: the walk. -/
import Derived.Test.YtafnadaahnkcmaaHold
import Derived.Test.YtafnadaahnkcmaaWorst
namespace Go.Proofs.Ytafnadaahnkcmaa
open Go.RowKit
set_option linter.unusedVariables false

theorem sumL_append (a b : List Int) : sumL (a ++ b) = sumL a + sumL b := by
  have key : ∀ (l : List Int) (z : Int), l.foldl (· + ·) z = z + l.foldl (· + ·) 0 := by
    intro l
    induction l with
    | nil => simp
    | cons x l ih => intro z; simp only [List.foldl_cons]; rw [ih (z + x), ih (0 + x)]; omega
  unfold sumL
  rw [List.foldl_append, key]
theorem sumL_zeros (n : Nat) : sumL (List.replicate n 0) = 0 := by
  induction n with
  | zero => rfl
  | succ n ih => rw [List.replicate_succ']; rw [sumL_append, ih]; rfl
theorem plSt_succ (s e0 : Int) (D : Nat) (nz bl : Nat → Int) (k : Nat) :
    plSt s e0 D nz bl (k + 1) = ((plSt s e0 D nz bl k).1 + (hdQ (plSt s e0 D nz bl k).2 (plMove s e0 D nz bl k) + nz k), tlQ (plSt s e0 D nz bl k).2 (plMove s e0 D nz bl k)) := rfl

/-- Under Worst's noise and blur the error grows by the noise until the first correction acts. -/
theorem worst_st (s N B : Int) (D : Nat) (nz bl : Nat → Int) (hB : 0 ≤ B) (hs : B ≤ s) (hn : ∀ k, k ≤ D → nz k = N) (hb : bl 0 = -B) :
    ∀ t, t ≤ D → (plSt s 0 D nz bl t).1 = t * N ∧ ∃ us : List Int, (plSt s 0 D nz bl t).2 = List.replicate (D - t) 0 ++ us ∧ us.length = t ∧ (us ++ [plMove s 0 D nz bl t]).head? = some B := by
  intro t
  induction t with
  | zero =>
    intro _
    refine ⟨by simp [plSt], [], by simp [plSt], rfl, ?_⟩
    simp only [List.nil_append, List.head?_cons, Option.some.injEq]
    unfold plMove plSt
    dsimp only
    rw [sumL_zeros, hb]
    unfold clamp
    omega
  | succ t ih =>
    intro ht
    obtain ⟨h1, us, h2, h3, h4⟩ := ih (by omega)
    obtain ⟨m, hm⟩ : ∃ m, D - t = m + 1 := ⟨D - t - 1, by omega⟩
    have hm' : D - (t + 1) = m := by omega
    rw [plSt_succ, h2, hm, List.replicate_succ, hn t (by omega)]
    refine ⟨?_, us ++ [plMove s 0 D nz bl t], ?_, by simp [h3], ?_⟩
    · simp only [hdQ, List.cons_append, List.headD_cons]
      rw [h1]; push_cast; rw [Int.add_mul]; omega
    · simp only [tlQ, List.cons_append, List.tail_cons, hm', List.append_assoc]
    · cases us with
      | nil => simpa using h4
      | cons u us => simpa using h4

theorem worst_reaches (s N B : Int) (D : Nat) (nz bl : Nat → Int) (hB : 0 ≤ B) (hs : B ≤ s) (hn : ∀ k, k ≤ D → nz k = N) (hb : bl 0 = -B) :
    (plSt s 0 D nz bl (D + 1)).1 = ((D : Int) + 1) * N + B := by
  obtain ⟨h1, us, h2, h3, h4⟩ := worst_st s N B D nz bl hB hs hn hb D (Nat.le_refl _)
  rw [plSt_succ, h1, h2, hn D (Nat.le_refl _)]
  have : hdQ (List.replicate (D - D) 0 ++ us) (plMove s 0 D nz bl D) = B := by
    simp only [Nat.sub_self, List.replicate_zero, List.nil_append, hdQ]
    cases us with
    | nil => simpa using h4
    | cons u us => simpa using h4
  rw [this]
  simp only []
  rw [Int.add_mul]; omega

theorem gD_rep (n : Nat) (x : Int) (k : Nat) (h : k < n) : gD (List.replicate n x) k = x := by simp [gD, h]

set_option maxRecDepth 100000 in
set_option maxHeartbeats 8000000 in
theorem reaches_true (dead noise blur step e : Int) (xs : List Int) (va : Value) (w : World) (h1 : I64 dead) (h2 : I64 noise) (h3 : I64 blur) (h4 : I64 step) (h5 : I64 e) (ha : Ints w va xs) (hxb : ∀ x ∈ xs, I64 x) :
    Calls Try.prog 7 #[.int .i64 dead, .int .i64 noise, .int .i64 blur, .int .i64 step, .int .i64 e, va] w fun x w' => x = .returned (.bool true) ∧ Ext w w' := by
  obtain ⟨aa, ca, rfl, HA⟩ := ha.form
  have HXB := Lib.hid hxb
  have hxlen := ha.len
  have HL := Lib.hid (loop_ex dead noise blur step w h1 h2 h3 h4)
  unfold I64 at h5
  clear ha hxb h1 h2 h3 h4
  go_enter Try.func7, Try.ntmps7
  go_upto_region 2 with (first
    | (go_at_call 14
       refine HL.out.mono ?_
       rintro x w1 ⟨⟨⟨d, n, b, s⟩, hok, rfl⟩, hx1⟩
       unfold Loop.val
       dsimp only
       have HOK := Lib.hid hok
       have HX := Lib.hid hx1
       clear hok hx1
       clear HL)
    | (with_reducible refine wpList_allocA rfl rfl Try.zeroValue36 ?_
       rintro lb w2 hb2 hx2 hl2
       have hl2' := Nat.le_trans HX.out.size hl2
       replace HX := Lib.hid (HX.out.ext hx2)
       have HB := Lib.hid hb2
       clear hb2
       clear hx2)
    | (with_reducible refine wpList_storeK (cells := #[.int .i64 d, .int .i64 n, .int .i64 b, .int .i64 s]) rfl rfl HB.out ?_ ?_ ?_ ?_ ?_ ?_
       · rfl
       · rfl
       · kernel_rfl
       · rfl
       · simp [Value.oneCell']
       rintro w3 hb3 ho3
       have hx3 := HX.out.then_only ho3 (fun k (hk : k = lb) => by omega)
       clear HB HX
       have HB := Lib.hid hb3
       have HX := Lib.hid hx3
       clear hb3 hx3
       clear ho3))
  have c3 := HB.out.cell
  have hok := HOK.out
  unfold Loop.Ok at hok
  dsimp only at hok
  obtain ⟨⟨a1, a2⟩, ⟨a3, a4⟩, ⟨a5, a6⟩, a7, a8, a9⟩ := hok
  obtain ⟨D, rfl⟩ := Int.eq_ofNat_of_zero_le a1
  have hnb : 0 ≤ ((D:Int) + 1) * n ∧ ((D:Int) + 1) * n ≤ 21000 := by
    refine ⟨Int.mul_nonneg (by omega) a3, ?_⟩
    have := Int.mul_le_mul (show (D:Int) + 1 ≤ 21 by omega) (show n ≤ 1000 by omega) a3 (by omega)
    omega
  have hwr := worst_reaches s n b D (gD (List.replicate (D + 2) n)) (gD (worstB b (D + 1))) a5 (by omega) (fun k hk => gD_rep _ _ _ (by omega)) (by simp [gD, worstB])
  obtain ⟨nb, hnbe⟩ : ∃ nb, ((D:Int) + 1) * n = nb := ⟨_, rfl⟩
  rw [hnbe] at hnb hwr
  obtain ⟨nb1, nb2⟩ := hnb
  have HNB := Lib.hid hnbe
  have E1 : Hid (IntKind.i64.wrap (((D:Int) + 1) * n) = nb) := by rw [hnbe]; exact i64_eq _ (by omega)
  have E2 : Hid (wrap64 (((D:Int) + 1) * n) = nb) := by rw [hnbe]; show _ = _; unfold wrap64; omega
  have hbd0 := fun w4 => bound_ok ⟨D, n, b, s⟩ w4 HOK.out
  have hwo0 := fun w4 => worst_ok ⟨D, n, b, s⟩ w4 HOK.out
  unfold Loop.val at hbd0 hwo0
  dsimp only at hbd0 hwo0
  rw [show ((D:Int) + 2).toNat = D + 2 by omega, show ((D:Int) + 1).toNat = D + 1 by omega] at hwo0
  rw [HNB.out] at hbd0
  have HBD := Lib.hid hbd0
  have HWO := Lib.hid hwo0
  have HWR := Lib.hid hwr
  clear hbd0 hwo0 hwr
  clear hnbe
  go_upto_region 4 with (first
    | (go_at_call 22
       refine (HWO.out _).mono ?_
       rintro x w4 ⟨p1, q1, p2, q2, rfl, hi4, hj4, hx4⟩
       replace HX := Lib.hid (HX.out.ext hx4)
       replace HB := Lib.hid (HB.out.ext hx4)
       have c4 := HB.out.cell
       have HI := Lib.hid hi4
       have HJ := Lib.hid hj4
       clear hi4 hj4
       clear hx4)
    | (go_at_call 15
       refine (HBD.out _).mono ?_
       rintro x w5 ⟨rfl, hx5⟩
       replace HX := Lib.hid (HX.out.ext hx5)
       replace HB := Lib.hid (HB.out.ext hx5)
       replace HI := Lib.hid (HI.out.ext hx5)
       replace HJ := Lib.hid (HJ.out.ext hx5)
       have c5 := HB.out.cell
       clear hx5))
  clear c3 c4 HBD HWO
  have tn : ((D:Int) + 2).toNat = D + 2 := by omega
  go_upto_region 9 with (
       go_at_call 17
       refine (play_ok ⟨D, n, b, s⟩ 0 (List.replicate (D + 2) n) (worstB b (D + 1)) _ _ _ HOK.out (by omega) HI.out HJ.out (by simp [worstB]) (by simp; omega) (fun x hx => by rw [(List.mem_replicate.1 hx).2]; dsimp only; omega) (fun x hx => by
         simp only [worstB, List.mem_cons, List.mem_replicate] at hx; dsimp only; omega)).mono ?_
       rintro x w6 ⟨v6, rfl, ho6, hx6⟩
       rw [List.length_replicate] at ho6
       have hm6 := Moms.of_owns ho6
       obtain ⟨_, am, cm, rfl, hq⟩ := hm6
       obtain ⟨b9, o9, rfl, hcl⟩ := hq (by omega)
       have k0 : w6.cell? ⟨b9, o9 + (D + 1) * 2, none⟩ = some (.int .i64 (nb + b)) := by
         have := (hcl (D + 1) (by omega)).1
         rw [← HWR.out]; exact this
       replace HX := Lib.hid (HX.out.ext hx6)
       replace HB := Lib.hid (HB.out.ext hx6)
       have c6 := HB.out.cell
       clear hx6 ho6 hcl hq c5 HI HJ)
  clear tn k0
  have te : -1000000 ≤ e.tmod 1000001 ∧ e.tmod 1000001 ≤ 1000000 := by
    have h1 := Int.tmod_lt_of_pos e (show (0:Int) < 1000001 by omega)
    have h2 := Int.tmod_lt_of_pos (-e) (show (0:Int) < 1000001 by omega)
    rw [Int.neg_tmod] at h2
    omega
  go_upto_region 10 with (fail)
  generalize e.tmod 1000001 = e1 at *
  clear h5
  obtain ⟨te1, te2⟩ := te
  go_wp2
  go_loopw [20, 21] (fun v t wr => ∃ k : Nat, k ≤ D + 1 ∧ t = .int .i64 k ∧ ∃ us : List Int, Hid (wr.ownsRow w6.heap.size 3 1 v k (us.map (.int .i64)) ∧ us.length = k ∧ (∀ x ∈ us, -1000000 ≤ x ∧ x ≤ 1000000)) ∧ Hid (Ext w6 wr)) (fun _ t _ => D + 1 - (intOf t).toNat)
  case atStart => exact ⟨0, Nat.zero_le _, rfl, [], ⟨World.ownsRow_nil _ _ _ _, rfl, fun x hx => by cases hx⟩, Below.refl _ _⟩
  case round =>
    obtain ⟨k, hk, rfl, us, HN, HY⟩ := hrel
    have c7 := (HB.out.ext HY.out).cell
    by_cases hlt : k ≤ D
    · have j1 : (0:Int) ≤ (k:Int) := by omega
      have j2 : (k:Int) ≤ (D:Int) := by omega
      by_cases hz : 0 < xs.length
      · obtain ⟨b1, o1, rfl, hc1⟩ := Ints.cells (xs := xs) ((HA.out.ext HX.out).ext HY.out) hz
        have hz' : (0:Int) < (xs.length:Int) := by omega
        have i1 : k % xs.length < xs.length := Nat.mod_lt _ hz
        have c1 := hc1 (k % xs.length) i1
        obtain ⟨y, hy⟩ : ∃ y, y = xs[k % xs.length]'i1 := ⟨_, rfl⟩
        rw [← hy] at c1
        have ty : -1000000 ≤ y.tmod 1000001 ∧ y.tmod 1000001 ≤ 1000000 := by
          have h1 := Int.tmod_lt_of_pos y (show (0:Int) < 1000001 by omega)
          have h2 := Int.tmod_lt_of_pos (-y) (show (0:Int) < 1000001 by omega)
          rw [Int.neg_tmod] at h2
          omega
        have hy1 : I64 y := by rw [hy]; exact HXB.out _ (List.getElem_mem _)
        unfold I64 at hy1
        clear hc1 hy
        go_wp2_with (
          at_builtin
          refine wpList_app tInts rfl rfl rfl (HN.out.1.alloc _) rfl (Src.lit _ [.int .i64 (y.tmod 1000001)] 1 1 rfl 3 1) (by simp [Value.oneCell']) (by omega) (Nat.le_trans HY.out.size (by simp)) ?_
          rintro v' w10 a1 a2 a3
          have HA1 := Lib.hid a1
          have HB1 := Lib.hid ((HY.out.tr (ext_lit _ _ _)).grown a2 (HY.out.tr (ext_lit _ _ _)).size (fun k hk => (HN.out.1.lt k hk).1))
          clear a1 a2 a3)
        go_roundw
        case rel => exact ⟨k + 1, by omega, by go_num, us ++ [y.tmod 1000001], ⟨by rw [List.map_append]; exact HA1.out, by rw [List.length_append, HN.out.2.1]; rfl, fun x hx => (List.mem_append.1 hx).elim (HN.out.2.2 x) (fun h => by simp at h; omega)⟩, HB1.out⟩
        case measure => simp [intOf]; omega
      · have hz' : (xs.length:Int) = 0 := by omega
        have hz2 : decide ((0:Int) < (xs.length:Int)) = false := decide_eq_false (by omega)
        go_wp2_with (
          at_builtin
          refine wpList_app tInts rfl rfl rfl (HN.out.1.alloc _) rfl (Src.lit _ [.int .i64 0] 1 1 rfl 3 1) (by simp [Value.oneCell']) (by omega) (Nat.le_trans HY.out.size (by simp)) ?_
          rintro v' w10 a1 a2 a3
          have HA1 := Lib.hid a1
          have HB1 := Lib.hid ((HY.out.tr (ext_lit _ _ _)).grown a2 (HY.out.tr (ext_lit _ _ _)).size (fun k hk => (HN.out.1.lt k hk).1))
          clear a1 a2 a3)
        go_roundw
        case rel => exact ⟨k + 1, by omega, by go_num, us ++ [0], ⟨by rw [List.map_append]; exact HA1.out, by rw [List.length_append, HN.out.2.1]; rfl, fun x hx => (List.mem_append.1 hx).elim (HN.out.2.2 x) (fun h => by simp at h; omega)⟩, HB1.out⟩
        case measure => simp [intOf]; omega
    · obtain rfl : k = D + 1 := by omega
      have hu7 : Ints wr u20 us := Sl.of_owns HN.out.1
      have hlen : us.length = D + 1 := HN.out.2.1
      have hub := HN.out.2.2
      have hx7 := HX.out.tr HY.out
      have hb7 := HB.out.ext HY.out
      obtain ⟨a7', c7', rfl, HU⟩ := hu7.form
      have hsb := fun k hk => sumL_bound us 1000000 (by omega) hub k hk
      have hbt := fun w4 => beat_ok ⟨D, n, b, s⟩ e1 us (.slice a7' us.length c7') w4 HOK.out ⟨te1, te2⟩
      unfold Loop.val at hbt
      dsimp only at hbt
      have hcs := beatN_cases n D e1 us
      have hfar := beatN_far n D e1 us a3 (by omega)
      rw [HNB.out] at hfar
      obtain ⟨bn, hbn⟩ : ∃ bn, beatN n D e1 us = bn := ⟨_, rfl⟩
      rw [hbn] at hbt hcs hfar
      obtain ⟨su, hsu⟩ : ∃ su, sumL us = su := ⟨_, rfl⟩
      rw [hsu] at hfar
      have HLE := Lib.hid hlen
      have hll : ((us.length : Int) != (D:Int) + 1) = false := by rw [hlen]; simp
      have jn : ¬ (((D + 1 : Nat) : Int) ≤ (D:Int)) := by omega
      clear HX HB HN HY
      have HBT := Lib.hid hbt
      have HFAR := Lib.hid hfar
      have HCS := Lib.hid hcs
      have HUB := Lib.hid hub
      have HX := Lib.hid hx7
      have HB := Lib.hid hb7
      have HSU := Lib.hid hsu
      have HSB := Lib.hid hsb
      clear hbt hfar hcs hub hx7 hb7 hsu hsb
      clear hlen hbn hu7
      go_upto_region 22 with (
         go_at_call 23
         refine (HBT.out _ HU.out (by have := HLE.out; omega) HUB.out).mono ?_
         rintro x w8 ⟨a8, q8, rfl, hi8, hx8⟩
         replace HX := Lib.hid (HX.out.ext hx8)
         replace HB := Lib.hid (HB.out.ext hx8)
         replace HU := Lib.hid (HU.out.ext hx8)
         have c8 := HB.out.cell
         have HI := Lib.hid hi8
         clear hi8
         clear hx8)
      have hbn1 : -1000 ≤ bn ∧ bn ≤ 1000 := by rcases HCS.out with h | h <;> omega
      obtain ⟨hbn1, hbn2⟩ := hbn1
      have hbk : ∀ k : Nat, k ≤ us.length → -25000000 ≤ e1 + (sumL (us.take k) + bn * k) ∧ e1 + (sumL (us.take k) + bn * k) ≤ 25000000 := fun k hk => by
        have h1 := Int.mul_le_mul_of_nonneg_right hbn1 (show (0:Int) ≤ (k:Int) by omega)
        have h2 := Int.mul_le_mul_of_nonneg_right hbn2 (show (0:Int) ≤ (k:Int) by omega)
        have h3 := HSB.out k hk
        have h4 := HLE.out
        omega
      have HBK := Lib.hid hbk
      clear hbk
      clear jn hll c7
      go_loopw [4, 24] (fun q t wr => ∃ k : Nat, k ≤ us.length ∧ t = .int .i64 k ∧ q = .int .i64 (e1 + (sumL (us.take k) + bn * k)) ∧ Hid (∃ n, wr = w8.drewN n)) (fun _ t _ => us.length - (intOf t).toNat)
      case atStart => exact ⟨0, Nat.zero_le _, rfl, by simp [sumL], 0, rfl⟩
      case round =>
        obtain ⟨k, hk, rfl, rfl, HW⟩ := hrel
        have HXR : Hid (Ext w8 wr) := by obtain ⟨n, hn⟩ := HW.out; rw [hn]; exact Ext.of_drewN _ _
        have c9 := (HB.out.ext HXR.out).cell
        obtain ⟨ac, hac⟩ : ∃ ac, ac = e1 + (sumL (us.take k) + bn * k) := ⟨_, rfl⟩
        have hab := HBK.out k hk
        rw [← hac] at hab ⊢
        obtain ⟨hab1, hab2⟩ := hab
        have HAC := Lib.hid hac
        clear hac
        by_cases hlt : k < us.length
        · have hl9 := HLE.out
          obtain ⟨b1, o1, rfl, hc1⟩ := Ints.cells (xs := us) (HU.out.ext HXR.out) (by omega)
          obtain ⟨b2, o2, rfl, hc2⟩ := Ints.cells (xs := List.replicate us.length bn) (HI.out.ext HXR.out) (by simp; omega)
          have q1 := hc1 k hlt
          have q2 := hc2 k (by simpa using hlt)
          rw [List.getElem_replicate] at q2
          have hsn := sumL_snoc us k hlt
          obtain ⟨y, hy⟩ : ∃ y, y = us[k] := ⟨_, rfl⟩
          have hyb := HUB.out us[k] (List.getElem_mem _)
          rw [← hy] at q1 hsn hyb
          obtain ⟨hy1, hy2⟩ := hyb
          have j1 : (0:Int) ≤ (k:Int) := by omega
          have j2 : (k:Int) < (us.length:Int) := by omega
          have HEND : Hid (ac + (y + bn) = e1 + (sumL (us.take (k + 1)) + bn * ((k + 1 : Nat) : Int))) := by
            rw [HAC.out, hsn]; show _ = _; push_cast; rw [Int.mul_add]; omega
          have w1' : IntKind.i64.wrap (y + bn) = y + bn := i64_eq _ (by omega)
          have w2' : IntKind.i64.wrap (ac + (y + bn)) = ac + (y + bn) := i64_eq _ (by omega)
          have l1 : wr.cell? ⟨lb, 1, none⟩ = some (.int .i64 n) := by rw [c9]; rfl
          have jk : (k:Int) ≤ 100 := by omega
          clear hc1 hc2 hy hl9 hsn
          by_cases hbe : bn = n
          · have d1 : (bn == n) = true := by simp [hbe]
            have d2 : (bn != n) = false := by simp [hbe]
            clear hbe
            go_wp2
            go_quiet (fail)
            go_wp2
            go_quiet (fail)
            go_wp2
            go_roundw
            case rel => exact ⟨k + 1, by omega, by go_num, by rw [HEND.out], by obtain ⟨n, hn⟩ := HW.out; exact ⟨_, by rw [hn]; exact World.drewN_drewN ..⟩⟩
            case measure => simp [intOf]; omega
          · have hbe' : bn = -n := HCS.out.resolve_left hbe
            have d1 : (bn == n) = false := by simp [hbe]
            have d2 : (bn != n) = true := by simp [hbe]
            have d3 : (bn == -n) = true := by simp [hbe']
            have d4 : (bn != -n) = false := by simp [hbe']
            clear hbe hbe'
            go_wp2
            go_quiet (fail)
            go_wp2
            go_quiet (fail)
            go_wp2
            go_roundw
            case rel => exact ⟨k + 1, by omega, by go_num, by rw [HEND.out], by obtain ⟨n, hn⟩ := HW.out; exact ⟨_, by rw [hn]; exact World.drewN_drewN ..⟩⟩
            case measure => simp [intOf]; omega
        · obtain rfl : k = us.length := by omega
          have hf : nb ≤ max ac (-ac) := by
            have h1 := HFAR.out
            have h2 := HAC.out
            rw [List.take_length, HSU.out, HLE.out] at h2
            have h3 : bn * ((D + 1 : Nat) : Int) = bn * ((D:Int) + 1) := by push_cast; rfl
            rw [h3] at h2
            generalize bn * ((D:Int) + 1) = z at *
            rw [h2]
            omega
          have e1' := E1.out
          have e2' := E2.out
          go_wp2_with (go_at_call 9; refine (awake_true _).mono ?_; rintro x w12 ⟨rfl, hx12⟩; have HX12 := Lib.hid ((HX.out.tr HXR.out).tr hx12); clear hx12)
          all_goals (go_ret; exact ⟨rfl, HX12.out⟩)
end Go.Proofs.Ytafnadaahnkcmaa
