/- PressSmall: the walk. The other statements come as hypotheses. -/
import Derived.Test.YtojobdffnnibaaaGreatJ14
import Derived.Test.YtojobdffnnibaaaGreatSmallC
import Derived.Test.YtojobdffnnibaaaGreatJ2
import Derived.Test.YtojobdffnnibaaaGreatJ15
import Derived.Test.YtojobdffnnibaaaGreatPRefute
import Derived.Test.YtojobdffnnibaaaGreatJ11
import Derived.Test.YtojobdffnnibaaaGreatJ5
import Derived.Test.YtojobdffnnibaaaGreatJ10
import Derived.Test.YtojobdffnnibaaaGreatActsG
import Derived.Test.YtojobdffnnibaaaGreatJ13
import Derived.Test.YtojobdffnnibaaaGreatJ8
import Derived.Deep.CutBlock
namespace Go.Proofs.YtojobdffnnibaaaGreat
open Go.RowKit
set_option linter.unusedVariables false
set_option linter.unusedSimpArgs false
def ActsT : Prop := ∀ (p : PressD) (s : StD) (l : List (Int × Int)) (x : Int) (vj vu vl : Value) (w : World), Truths w vj p.jam → UnIn w vu s.units → AcIn w vl l → (∀ a ∈ l, I64 a.1) → I64 x →
 Calls Tryz.prog 24 #[pV vj p, sV vu s, vl, .int .i64 x] w fun e w' => e = .returned (.bool true) ∧ Ext w w'
def PrintsT : Prop := ∀ (p : PressD) (s : StD) (n : Int) (vj vu : Value) (w : World), Truths w vj p.jam → UnIn w vu s.units → I64 n →
 Calls Tryz.prog 25 #[pV vj p, sV vu s, .int .i64 n] w fun e w' => e = .returned (.bool true) ∧ Ext w w'
def FindsT : Prop := ∀ (p : PressD) (s : StD) (g : GoalD) (l : List (Int × Int)) (codes : List Int) (vj vu vg vl vc : Value) (w : World), Truths w vj p.jam → UnIn w vu s.units → Truths w vg g.pressed → AcIn w vl l → (∀ a ∈ l, I64 a.1) → Ints w vc codes → (∀ c ∈ codes, I64 c) →
 Calls Tryz.prog 3 #[pV vj p, sV vu s, gV vg g, vl, vc] w fun e w' => e = .returned (.bool true) ∧ Ext w w'
theorem row_cap {w : World} {B : Nat} {e : TypeId} {size : Nat} {a : Option Addr} {n c : Nat} {xs : List Value} (h : w.ownsRow B e size (.slice a n c) n xs) : n ≤ c := by
 rcases h.2 with ⟨hv, h0⟩ | ⟨g, cap, cur, hv, _, _, hc, _⟩
 omega
 · cases hv; exact hc
theorem AcIn.take' {w : World} {a : Option Addr} {n c : Nat} {l : List (Int × Int)} (h : AcIn w (.slice a n c) l) {k : Nat} (hk : k ≤ l.length) : AcIn w (.slice a k c) (l.take k) := by
 obtain ⟨h0, a', c', hv, h2⟩ := h; injection hv with e1 e2 e3; subst e1; refine ⟨by rw [List.length_take]; omega, a, c, by rw [List.length_take, Nat.min_eq_left hk], fun h3 => ?_⟩; rw [List.length_take] at h3; obtain ⟨b, o, e, hc⟩ := h2 (by omega); refine ⟨b, o, e, fun i hi => ?_⟩; rw [List.length_take] at hi; have h5 := hc i (by omega)
 simpa using h5
theorem row_room {w : World} {B : Nat} {e : TypeId} {size : Nat} {g n c : Nat} {xs : List Value} (h : w.ownsRow B e size (.slice (some ⟨g, 0, none⟩) n c) n xs) : ∃ cur : Array Value, Blk w g cur e ∧ n * size ≤ cur.size := by
 rcases h.2 with ⟨hv, _⟩ | ⟨g', c', cur', hv, h3, hh, h4, h5, h6, h7⟩
 · cases hv
 · cases hv
   exact ⟨cur', hh, by rw [h6]; exact Nat.mul_le_mul_right _ h4⟩
theorem owns_putS {w w' : World} {B : Nat} {e : TypeId} {size g c n i : Nat} {cur : Array Value} {u : Value} {xs : List Value} (h : w.ownsRow B e size (.slice (some ⟨g, 0, none⟩) n c) n xs) (hb : Blk w g cur e) (hb1 : Blk w' g (cur.setIfInBounds i u) e) :
 w'.ownsRow B e size (.slice (some ⟨g, 0, none⟩) n c) n (xs.set i u) := by
 obtain ⟨h1, h2⟩ := h; refine ⟨by rw [List.length_set]; exact h1, ?_⟩
 rcases h2 with ⟨hv, _⟩ | ⟨g', c', cur', hv, h3, hh, h4, h5, h6, h7⟩
 · cases hv
 {
 cases hv
 have e1 : cur' = cur := by
  have := hh.symm.trans hb; simp only [Option.some.injEq, Obj.cells.injEq] at this; exact this.1
 subst e1; refine .inr ⟨g, c, _, rfl, h3, hb1, h4, h5, by rw [Array.size_setIfInBounds]; exact h6, ?_⟩; rw [Array.toList_setIfInBounds, List.take_set, h7]
 }
theorem made_two (x : Value) (m : Nat) : madeCells #[x, x] m = (List.replicate m x).toArray := by
 apply Array.ext
 · simp [madeCells]
 {
 intro i h1 h2; have hm : i % 2 = 0 ∨ i % 2 = 1 := by omega
 rcases hm with h | h <;> simp [madeCells, h]
 }
theorem acL_zeros : ∀ n, acL (List.replicate n ((0:Int), (0:Int))) = List.replicate (n * 2) (Value.int .i64 0)
 | 0 => rfl
 | n + 1 => by
   rw [List.replicate_succ, show (n + 1) * 2 = n * 2 + 1 + 1 by omega, List.replicate_succ, List.replicate_succ, ← acL_zeros n]; rfl
theorem made_units4 (n : Nat) (h : n ≤ 4) : (madeCells #[.bool false, .bool false, .bool false, .bool false, .int .i64 0] (n * 5)).toList = uL (List.replicate n ⟨false, false, false, false, 0⟩) := by
 have : n = 0 ∨ n = 4 ∨ (1 ≤ n ∧ n ≤ 3) := by omega
 rcases this with rfl | rfl | h
 · have : (madeCells #[.bool false, .bool false, .bool false, .bool false, .int .i64 0] (0 * 5)).toList = uL (List.replicate 0 ⟨false, false, false, false, 0⟩) := by kernel_rfl
   exact this
 · have : (madeCells #[.bool false, .bool false, .bool false, .bool false, .int .i64 0] (4 * 5)).toList = uL (List.replicate 4 ⟨false, false, false, false, 0⟩) := by kernel_rfl
   exact this
 · exact made_units n h
theorem begin_small {w w' : World} {e : Ending} (h : BeginPost w p3 e w') : ∃ vu, e = .returned (.tuple #[sV vu b3, .int .i64 0]) ∧ w'.ownsRow w.heap.size 82 5 vu 3 (uL b3.units) ∧ Ext w w' := by
 rcases h with ⟨h1, _⟩ | ⟨_, vu, h2, h3, h4⟩
 · exact absurd p3_ok h1
 · exact ⟨vu, h2, h3, h4⟩
theorem tActsP : SliceT Tryz.prog 42 72 (.agg #[.int .i64 0, .int .i64 0]) 2 16 := ⟨by kernel_rfl, by kernel_rfl, rfl, by decide, by decide⟩
theorem zeros_i64 {n : Nat} : ∀ a ∈ List.replicate n ((0:Int), (0:Int)), I64 a.1 := fun a ha => by
 have := List.eq_of_mem_replicate ha; subst this; exact ⟨by decide, by decide⟩
theorem truths_lt {w : World} {v : Value} {bs : List Bool} (h : Truths w v bs) (h0 : 0 < bs.length) : ∀ b, v.ownBlock = some b → b < w.heap.size := fun b hb => by
 obtain ⟨_, a, c, hv, _, h2⟩ := h; obtain ⟨b', o, ha, hc⟩ := h2 (by rw [List.length_map]; exact h0); subst hv; subst ha; have e : b' = b := (by simpa [Value.ownBlock] using hb); subst e; have := hc 0 (.bool bs[0]) (by simp [h0]); exact World.block_lt_of_cell? w _ this
theorem tPtrI : SliceT Tryz.prog 69 68 (.pointer none) 1 8 := ⟨by kernel_rfl, by kernel_rfl, rfl, by decide, by decide⟩
theorem vs8 (i : Nat) (h : i < 8) : ∃ v : Int, ([.int .i64 (-1), .int .i64 0, .int .i64 9999, .int .i64 10000, .int .i64 10001, .int .i64 999999, .int .i64 1000000, .int .i64 1000001] : List Value)[i]? = some (.int .i64 v) ∧ I64 v := by
 have : i = 0 ∨ i = 1 ∨ i = 2 ∨ i = 3 ∨ i = 4 ∨ i = 5 ∨ i = 6 ∨ i = 7 := by omega
 rcases this with rfl | rfl | rfl | rfl | rfl | rfl | rfl | rfl <;> exact ⟨_, rfl, by decide, by decide⟩
theorem truths_own {w : World} {B : Nat} {e : TypeId} {v : Value} {n : Nat} {bs : List Bool} (h : w.ownsRow B e 1 v n (bs.map .bool)) : Truths w v bs := Sl.of_owns h
set_option maxRecDepth 100000 in
set_option maxHeartbeats 4000000 in
theorem small_walk (HA : ActsT) (HP : PrintsT) (HF : FindsT) (w : World) : Calls Tryz.prog 4 #[] w fun e w' => e = .returned (.bool true) ∧ Ext w w' := by
 unfold ActsT at HA; unfold PrintsT at HP; unfold FindsT at HF; unfold pV sV at HA HP; unfold pV sV gV at HF; have HAH := Hd HA; have HPH := Hd HP; have HFH := Hd HF; clear HA HP HF
 go_enter Tryz.func4, Tryz.ntmps4
 go_upto_region 2 with (fail)
 go_loopw [1] (fun t1 wr => ∃ k : Nat, k ≤ 192 ∧ t1 = .int .i64 k ∧ Hid (Ext w wr)) (fun t1 _ => 192 - (intOf t1).toNat)
 case atStart => exact ⟨0, Nat.zero_le _, rfl, Below.refl _ _⟩
 case round =>
  obtain ⟨k, hk, rfl, HX⟩ := hrel
  by_cases hlt : k < 192
  {
  skip
  as_aux_lemma =>
   obtain ⟨wo, rfl⟩ : ∃ W, W = wr := ⟨wr, rfl⟩; have i1 : (k:Int) < 192 := (by omega); have i0 : (0:Int) ≤ (k:Int) := (by omega); obtain ⟨b0, e0⟩ : ∃ b, ((k:Int) % 2 == 1) = b := ⟨_, rfl⟩; obtain ⟨c, hc⟩ : ∃ c : Nat, k / 2 = c := ⟨_, rfl⟩; have e1 : (k:Int) / 2 = (c:Int) := (by omega); have hc96 : c < 96 := (by omega); obtain ⟨d, hd⟩ : ∃ d : Nat, c % 3 = d := ⟨_, rfl⟩; have e2 : (c:Int) % 3 = (d:Int) := (by omega); have hd3 : d < 3 := (by omega); obtain ⟨f, e3⟩ : ∃ b, ((c:Int) / 3 % 2 == 1) = b := ⟨_, rfl⟩; obtain ⟨u1, e4⟩ : ∃ b, ((c:Int) / 6 % 2 == 1) = b := ⟨_, rfl⟩; obtain ⟨u2, e5⟩ : ∃ b, ((c:Int) / 12 % 2 == 1) = b := ⟨_, rfl⟩; obtain ⟨u3, e6⟩ : ∃ b, ((c:Int) / 24 % 2 == 1) = b := ⟨_, rfl⟩; obtain ⟨u4, e7⟩ : ∃ b, ((c:Int) / 48 == 1) = b := ⟨_, rfl⟩; clear hc hd
   go_upto_region 7 with (first
    | (with_reducible refine wpList_buildR tBoolsR rfl rfl (v := .bool b0) rfl [.bool b0] (by omega) rfl rfl ?_
       rintro v28 w1 hx ho; obtain ⟨a28, c28, hv28⟩ := row_form ho; subst hv28; have x1 := HX.out.tr hx; clear HX hx; have X := Hd x1; have OB := Hd ho
       clear x1 ho)
    | (with_reducible refine wpList_allocA (t := 24) rfl rfl Tryz.zeroValue24 ?_
       rintro pb w2 hy1 hy2 hy3; have lz : w1.heap.size ≤ pb := hy3; clear hy3; have PB := Hd hy1; have Z := Hd hy2; have LZ := Hd lz
       clear hy1 hy2 lz)
    | (with_reducible refine wpList_storeK (ty := 24) (cells := #[.slice a28 1 c28, .int .i64 1, .int .i64 2, .int .i64 3]) rfl rfl PB.out ?_ ?_ ?_ ?_ ?_ ?_
       rfl; rfl; rfl; rfl; simp [Value.oneCell']; rintro w3 hb ho; have hx := Z.out.then_only ho (fun q (e : q = pb) => by rw [e]; exact LZ.out); have x1 := X.out.tr hx; have ob := owns_ext OB.out hx; clear X OB hx ho Z LZ PB; have X := Hd x1; have OB := Hd ob; have PB := Hd hb
       clear x1 ob hb)
    | (with_reducible refine wpList_buildR tUnitsS rfl rfl (v := .agg #[.bool u1, .bool u2, .bool u3, .bool u4, .int .i64 2]) rfl [.bool u1, .bool u2, .bool u3, .bool u4, .int .i64 2] (by omega) rfl rfl ?_
       rintro v54 w4 hx ho; obtain ⟨a54, c54, hv54⟩ := row_form ho; subst hv54; have x1 := X.out.tr hx; have ob := owns_ext OB.out hx; have pb2 := PB.out.ext hx; clear X hx OB PB; have X := Hd x1; have OB := Hd ob; have PB := Hd pb2; have OU := Hd ho
       clear x1 ob pb2 ho)
    | (with_reducible refine wpList_allocA (t := 27) rfl rfl Tryz.zeroValue27 ?_
       rintro sb w5 hy1 hy2 hy3; have lz : w4.heap.size ≤ sb := hy3; have ls := Nat.le_trans X.out.size hy3; clear hy3; have SB := Hd hy1; have Z := Hd hy2; have LZ := Hd lz; have LS := Hd ls
       clear hy1 hy2 lz ls)
    | (with_reducible refine wpList_storeK (ty := 27) (cells := #[.int .i64 d, .bool f, .slice a54 1 c54, .int .i64 0]) rfl rfl SB.out ?_ ?_ ?_ ?_ ?_ ?_
       rfl; rfl; rfl; rfl; simp [Value.oneCell']; rintro w6 hb ho; have hx := Z.out.then_only ho (fun q (e : q = sb) => by rw [e]; exact LZ.out); have x1 := X.out.tr hx; have ob := owns_ext OB.out hx; have ou := owns_ext OU.out hx; have pb2 := PB.out.ext hx; have c2 := hb.cell; clear X OB OU PB hx ho Z SB; have X := Hd x1; have OB := Hd ob; have OU := Hd ou; have PB := Hd pb2; have SB := Hd hb
       clear x1 ob ou pb2 hb))
   clear e0 e1 e2 e3 e4 e5 e6 e7 i1; obtain ⟨wz, rfl⟩ : ∃ W, W = w6 := ⟨w6, rfl⟩; obtain ⟨tt, htt⟩ : ∃ b, ((d:Int) == 2) = b := ⟨_, rfl⟩
   go_upto_if 58 with (fail)
   clear htt
   go_cut [] (fun W => ∃ fr : Int, Hid (Blk W sb #[.int .i64 d, .bool f, .slice a54 1 c54, .int .i64 fr] 27) ∧ Hid (Only (fun b => b = sb) wz W))
   case first =>
    rename_i hR hK
    cases tt
    {
    refine wp_cond_false rfl ?_; refine wp_skip ?_; refine hK _ _ ?_; go_meet
    case rel => exact ⟨0, SB, Only.refl _ _⟩
    }
    {
    refine wp_cond_true rfl ?_
    go_wp2_with (
     (with_reducible refine wpList_setK (b := sb) (i := 3) (v := .int .i64 (1 + (k:Int) % 3)) rfl rfl SB.out ?_ ?_ ?_ ?_ ?_ ?_ ?_); rfl; rfl
     · simp
     rfl; rfl; rfl; rintro w7 hb ho; have hb2 : Blk w7 sb #[.int .i64 d, .bool f, .slice a54 1 c54, .int .i64 (1 + (k:Int) % 3)] 27 := hb; clear hb; have B7 := Hd hb2; have O7 := Hd ho
     clear hb2 ho)
    go_meet
    case rel => exact ⟨_, B7, O7⟩
    }
   case rest =>
    obtain ⟨fr, SB2, O2⟩ := hcut; obtain ⟨wq, rfl⟩ : ∃ W, W = wc := ⟨wc, rfl⟩; have x2 := X.out.then_only O2.out (fun b (e : b = sb) => by rw [e]; exact LS.out); have ob2 := owns_only OB.out O2.out (owns_ne' OB.out SB.out (by decide)); have ou2 := owns_only OU.out O2.out (owns_ne' OU.out SB.out (by decide)); have pb2 := PB.out.only O2.out (fun e => absurd (blk_ty PB.out (e ▸ SB.out)) (by decide)); have hT : Truths wq (.slice a28 1 c28) [b0] := truths_own ob2; have hU : UnIn wq (.slice a54 1 c54) [⟨u1, u2, u3, u4, 2⟩] := UnIn.of_owns (us := [⟨u1, u2, u3, u4, 2⟩]) ou2 (by simp); have hA := fun (l : List (Int × Int)) (x : Int) vl W (kx : Ext wq W) hv hk hx => HAH.out ⟨[b0], 1, 2, 3⟩ ⟨d, f, [⟨u1, u2, u3, u4, 2⟩], fr⟩ l x (.slice a28 1 c28) (.slice a54 1 c54) vl W (Sl.ext hT kx) (hU.ext kx) hv hk hx; have hP := fun (x : Int) W (kx : Ext wq W) hx => HPH.out ⟨[b0], 1, 2, 3⟩ ⟨d, f, [⟨u1, u2, u3, u4, 2⟩], fr⟩ x (.slice a28 1 c28) (.slice a54 1 c54) W (Sl.ext hT kx) (hU.ext kx) hx; have hF := fun (g : GoalD) (l : List (Int × Int)) (cs : List Int) vg vl vc W (kx : Ext wq W) hg hv hk hc hi => HFH.out ⟨[b0], 1, 2, 3⟩ ⟨d, f, [⟨u1, u2, u3, u4, 2⟩], fr⟩ g l cs (.slice a28 1 c28) (.slice a54 1 c54) vg vl vc W (Sl.ext hT kx) (hU.ext kx) hg hv hk hc hi; dsimp only at hA hP hF; clear hT hU O2 X OB OU PB SB LZ LS ob2 ou2; have X := Hd x2; have PB := Hd pb2; have HA := Hd hA; have HP := Hd hP; have HF := Hd hF; clear x2 pb2 hA hP hF
    go_upto_region 10 with (fail)
    go_loopw [5] (fun t5 wr => ∃ j : Nat, j ≤ 14 ∧ t5 = .int .i64 j ∧ Hid (Ext wq wr)) (fun t5 _ => 14 - (intOf t5).toNat)
    case atStart => exact ⟨0, Nat.zero_le _, rfl, Below.refl _ _⟩
    case round =>
     obtain ⟨j, hj, rfl, HY⟩ := hrel; have c1 := (PB.out.ext HY.out).cell; have c2 := (SB2.out.ext HY.out).cell
     by_cases hlj : j < 14
     {
     obtain ⟨q, hq⟩ : ∃ q : Nat, j / 13 = q := ⟨_, rfl⟩; have e1 : (j:Int) / 13 = (q:Int) := (by omega); have hq2 : q < 2 := (by omega); have i1 : (j:Int) < 14 := (by omega); clear hq
     go_wp2_with (first
      | (with_reducible refine wpList_buildR tActsR rfl rfl (v := .agg #[.int .i64 j, .int .i64 q]) rfl [.int .i64 j, .int .i64 q] (by omega) rfl rfl ?_
         rintro v73 w8 hx ho; obtain ⟨a73, c73, hv73⟩ := row_form ho; subst hv73; have ac : AcIn w8 (.slice a73 1 c73) [((j:Int), (q:Int))] := AcIn.of_owns (l := [((j:Int), (q:Int))]) ho (by simp); have y2 := HY.out.tr hx; clear HY hx ho c1 c2; have c1 := (PB.out.ext y2).cell; have c2 := (SB2.out.ext y2).cell; have HY := Hd y2; have AC := Hd ac
         clear y2 ac)
      | (go_at_call 24
         refine (HA.out [((j:Int), (q:Int))] ((k:Int) % 3 - 1) _ _ HY.out AC.out (fun a ha => by simp at ha; subst ha; unfold I64; dsimp only; omega) (by unfold I64; omega)).mono ?_; rintro e w9 ⟨rfl, hx⟩; have y2 := HY.out.tr hx; clear HY hx c1 c2; have HY := Hd y2
         clear y2))
     go_roundw
     case rel => exact ⟨j + 1, by omega, by go_num, HY⟩
     case measure => simp [intOf] <;> omega
     }
     {
     have i1 : decide ((j:Int) < 14) = false := decide_eq_false (by omega); clear c1 c2; obtain ⟨wp, rfl⟩ : ∃ W, W = wr := ⟨wr, rfl⟩
     go_upto_region 15 with (fail)
     clear i1
     go_loopw [6] (fun t6 wr => ∃ m : Nat, m ≤ 8 ∧ t6 = .int .i64 m ∧ Hid (Ext wq wr)) (fun t6 _ => 8 - (intOf t6).toNat)
     case atStart => exact ⟨0, Nat.zero_le _, rfl, HY⟩
     case round =>
      clear HY; obtain ⟨m, hm, rfl, HY⟩ := hrel
      by_cases hlm : m < 8
      {
      have i1 : (m:Int) < 8 := (by omega); obtain ⟨h4, hh4⟩ : ∃ h : Nat, m % 4 = h := ⟨_, rfl⟩; obtain ⟨x7, hx7⟩ : ∃ h : Nat, m / 7 = h := ⟨_, rfl⟩; obtain ⟨x4, hx4⟩ : ∃ h : Nat, m / 4 = h := ⟨_, rfl⟩; have hh : h4 ≤ ([(7, 0), (4, 0), (3, 0)] : List (Int × Int)).length := show h4 ≤ 3 from (by omega); have q1 : (m:Int).tmod 4 = (h4:Int) := by rw [Int.tmod_eq_emod_of_nonneg (by omega)]; omega
      have q2 : IntKind.i64.wrap ((m:Int) / 7) = (x7:Int) := by
       have : (m:Int) / 7 = (x7:Int) := (by omega); rw [this]; exact i64_eq _ (by omega)
      have q4 : IntKind.i64.wrap ((m:Int) / 4) = (x4:Int) := by
       have : (m:Int) / 4 = (x4:Int) := (by omega); rw [this]; exact i64_eq _ (by omega)
      obtain ⟨gd, q3⟩ : ∃ x : Int, IntKind.i64.wrap ((h4:Int) - (x7:Int)) = x := ⟨_, rfl⟩; obtain ⟨gb, q5⟩ : ∃ b, ((x4:Int) == 1) = b := ⟨_, rfl⟩
      have kl4 : ∀ a ∈ ([(7, 0), (4, 0), (3, 0)] : List (Int × Int)).take h4, I64 a.1 := fun a ha => by
       have h5 := List.mem_of_mem_take ha; simp at h5
       rcases h5 with rfl | rfl | rfl <;> exact ⟨by decide, by decide⟩
      have kc3 : ∀ x ∈ [(c:Int), 0, (m:Int)], I64 x := fun x hx => by
       simp at hx; unfold I64
       rcases hx with rfl | rfl | rfl <;> omega
      have Q1 := Hd q1; have Q2 := Hd q2; have Q3 := Hd q3; have Q4 := Hd q4; have Q5 := Hd q5; have HH := Hd hh; have KL4 := Hd kl4; have KC3 := Hd kc3; clear q1 q2 q3 q4 q5 hh kl4 kc3
      go_upto_region 17 with (fail)
      have hS : ∀ W, Ext wq W → ((∀ j, W.cell? ⟨pb, j, none⟩ = (#[.slice a28 1 c28, .int .i64 1, .int .i64 2, .int .i64 3] : Array Value)[j]?) ∧ (∀ j, W.cell? ⟨sb, j, none⟩ = (#[.int .i64 d, .bool f, .slice a54 1 c54, .int .i64 fr] : Array Value)[j]?)) := fun W hx => ⟨(PB.out.ext hx).cell, (SB2.out.ext hx).cell⟩; have xd := HY.out.drew; refine wp_region_K (fun wx => (∀ j, wx.cell? ⟨pb, j, none⟩ = (#[.slice a28 1 c28, .int .i64 1, .int .i64 2, .int .i64 3] : Array Value)[j]?) ∧ (∀ j, wx.cell? ⟨sb, j, none⟩ = (#[.int .i64 d, .bool f, .slice a54 1 c54, .int .i64 fr] : Array Value)[j]?)) 24 (by kernel_rfl) (hS _ xd) (fun kh => ?_); generalize wr.drew = wy at *; clear HY hh4 hx7 hx4; have XC := Hd xd; have HS := Hd hS; clear xd hS; refine kX 0 kh ?_; simp only [kS]; refine kX 1 kh ?_; simp only [kS]; refine kX 2 kh ?_; simp only [kS]; refine kX 3 kh ?_; simp only [kS]; refine kX 4 kh ?_; simp only [kS]; refine kX 5 kh ?_; simp only [kS]; refine kX 6 kh ?_; simp only [kS]; refine kX 7 kh ?_; simp only [kS]; refine kX 8 kh ?_; simp only [kS]; refine kX 9 kh ?_; simp only [kS]; refine kX 12 kh ?_; simp only [kS]; refine kX 13 kh ?_; simp only [kS]; refine kX 14 kh ?_; simp only [kS]; refine kX 16 kh ?_; simp only [kS]; refine kX 17 kh ?_; simp only [kS]; refine kX 19 kh ?_; simp only [kS]; refine kX 20 kh ?_; simp only [kS]; clear kh; simp only [Q1.out, Q2.out, Q3.out, Q4.out, Q5.out]; clear i1; apply shareH
      case' h => intro k17_10_15_18_21
      apply shareH
      case' h => intro k17_10_15_18
      apply shareH
      case' h => intro k17_10_15_21
      apply shareH
      case' h => intro k17_15_18_21
      apply shareH
      case' h => intro k17_10_15
      apply shareH
      case' h => intro k17_10_21
      apply shareH
      case' h => intro k17_15_18
      apply shareH
      case' h => intro k17_15_21
      apply shareH
      case' h => intro k17_10
      apply shareH
      case' h => intro k17_15
      apply shareH
      case' h => intro k17_21
      {
      refine rK [10, 15, 21] ?_; refine xK 10 (fun K hK => ?_) ?_
      {
      refine step_buildN tBoolsR rfl rfl [.bool gb] ?_ rfl ?_ [.bool gb] rfl (by omega) (by omega) ?_; rfl
      · simp [Value.cells]
      intro vn wy hx ho; obtain ⟨a93, c93, rfl⟩ := row_form ho; have O93 := Hd (owns_weak ho XC.out.size); clear ho; replace XC := Hd (XC.out.tr hx); clear hx; refine kG hK (HS.out _ XC.out) fun kh => ?_; (try simp only [kS]); refine kX 11 kh ?_; simp only [kS]; clear kh; revert O93; revert c93; revert a93; revert XC; revert wy; exact k17_10.out
      }
      refine xK 15 (fun K hK => ?_) ?_
      {
      refine step_buildN tActsR rfl rfl [.agg #[.int .i64 7, .int .i64 0], .agg #[.int .i64 4, .int .i64 0], .agg #[.int .i64 3, .int .i64 0]] ?_ rfl ?_ [.int .i64 7, .int .i64 0, .int .i64 4, .int .i64 0, .int .i64 3, .int .i64 0] rfl (by omega) (by omega) ?_; rfl
      · simp [Value.cells]
      intro vn wy hx ho; obtain ⟨a98, c98, rfl⟩ := row_form ho; have C98 : 3 ≤ c98 := row_cap ho; have O98 := Hd (owns_weak ho XC.out.size); clear ho; replace XC := Hd (XC.out.tr hx); clear hx; refine kG hK (HS.out _ XC.out) fun kh => ?_; (try simp only [kS]); clear kh; revert C98; revert O98; revert c98; revert a98; revert XC; revert wy; exact k17_15.out
      }
      refine xK 21 (fun K hK => ?_) ?_
      {
      refine step_buildN tNums rfl rfl [.int .i64 c, .int .i64 0, .int .i64 m] ?_ rfl ?_ [.int .i64 c, .int .i64 0, .int .i64 m] rfl (by omega) (by omega) ?_; rfl
      · simp [Value.cells]
      intro vn wy hx ho; obtain ⟨a104, c104, rfl⟩ := row_form ho; have O104 := Hd (owns_weak ho XC.out.size); clear ho; replace XC := Hd (XC.out.tr hx); clear hx; refine kG hK (HS.out _ XC.out) fun kh => ?_; (try simp only [kS]); clear kh; revert O104; revert c104; revert a104; revert XC; revert wy; exact k17_21.out
      }
      exact nK
      }
      {
      intro wy XC a104 c104 O104; refine rK [10, 15] ?_; refine xK 10 (fun K hK => ?_) ?_
      {
      refine step_buildN tBoolsR rfl rfl [.bool gb] ?_ rfl ?_ [.bool gb] rfl (by omega) (by omega) ?_; rfl
      · simp [Value.cells]
      intro vn wy hx ho; obtain ⟨a93, c93, rfl⟩ := row_form ho; have O93 := Hd (owns_weak ho XC.out.size); clear ho; replace O104 := Hd (owns_ext O104.out hx); replace XC := Hd (XC.out.tr hx); clear hx; refine kG hK (HS.out _ XC.out) fun kh => ?_; (try simp only [kS]); refine kX 11 kh ?_; simp only [kS]; clear kh; revert O104; revert c104; revert a104; revert O93; revert c93; revert a93; revert XC; revert wy; exact k17_10_21.out
      }
      refine xK 15 (fun K hK => ?_) ?_
      {
      refine step_buildN tActsR rfl rfl [.agg #[.int .i64 7, .int .i64 0], .agg #[.int .i64 4, .int .i64 0], .agg #[.int .i64 3, .int .i64 0]] ?_ rfl ?_ [.int .i64 7, .int .i64 0, .int .i64 4, .int .i64 0, .int .i64 3, .int .i64 0] rfl (by omega) (by omega) ?_; rfl
      · simp [Value.cells]
      intro vn wy hx ho; obtain ⟨a98, c98, rfl⟩ := row_form ho; have C98 : 3 ≤ c98 := row_cap ho; have O98 := Hd (owns_weak ho XC.out.size); clear ho; replace O104 := Hd (owns_ext O104.out hx); replace XC := Hd (XC.out.tr hx); clear hx; refine kG hK (HS.out _ XC.out) fun kh => ?_; (try simp only [kS]); clear kh; revert O104; revert c104; revert a104; revert C98; revert O98; revert c98; revert a98; revert XC; revert wy; exact k17_15_21.out
      }
      exact nK
      }
      {
      intro wy XC a98 c98 O98 C98; refine rK [10, 18, 21] ?_; refine xK 10 (fun K hK => ?_) ?_
      {
      refine step_buildN tBoolsR rfl rfl [.bool gb] ?_ rfl ?_ [.bool gb] rfl (by omega) (by omega) ?_; rfl
      · simp [Value.cells]
      intro vn wy hx ho; obtain ⟨a93, c93, rfl⟩ := row_form ho; have O93 := Hd (owns_weak ho XC.out.size); clear ho; replace O98 := Hd (owns_ext O98.out hx); replace XC := Hd (XC.out.tr hx); clear hx; refine kG hK (HS.out _ XC.out) fun kh => ?_; (try simp only [kS]); refine kX 11 kh ?_; simp only [kS]; clear kh; revert C98; revert O98; revert c98; revert a98; revert O93; revert c93; revert a93; revert XC; revert wy; exact k17_10_15.out
      }
      refine xK 18 (fun K hK => ?_) ?_
      { have j1 : (h4:Int) ≤ (c98:Int) := Int.ofNat_le.2 (Nat.le_trans HH.out C98); have j0 : (0:Int) ≤ (h4:Int) := Int.natCast_nonneg _; go_simp; refine kG hK (HS.out _ XC.out) fun kh => ?_; (try simp only [kS]); clear kh j0 j1; revert C98; revert O98; revert c98; revert a98; revert XC; revert wy; exact k17_15_18.out }
      refine xK 21 (fun K hK => ?_) ?_
      {
      refine step_buildN tNums rfl rfl [.int .i64 c, .int .i64 0, .int .i64 m] ?_ rfl ?_ [.int .i64 c, .int .i64 0, .int .i64 m] rfl (by omega) (by omega) ?_; rfl
      · simp [Value.cells]
      intro vn wy hx ho; obtain ⟨a104, c104, rfl⟩ := row_form ho; have O104 := Hd (owns_weak ho XC.out.size); clear ho; replace O98 := Hd (owns_ext O98.out hx); replace XC := Hd (XC.out.tr hx); clear hx; refine kG hK (HS.out _ XC.out) fun kh => ?_; (try simp only [kS]); clear kh; revert O104; revert c104; revert a104; revert C98; revert O98; revert c98; revert a98; revert XC; revert wy; exact k17_15_21.out
      }
      exact nK
      }
      {
      intro wy XC a93 c93 O93; refine rK [15, 21] ?_; refine xK 15 (fun K hK => ?_) ?_
      {
      refine step_buildN tActsR rfl rfl [.agg #[.int .i64 7, .int .i64 0], .agg #[.int .i64 4, .int .i64 0], .agg #[.int .i64 3, .int .i64 0]] ?_ rfl ?_ [.int .i64 7, .int .i64 0, .int .i64 4, .int .i64 0, .int .i64 3, .int .i64 0] rfl (by omega) (by omega) ?_; rfl
      · simp [Value.cells]
      intro vn wy hx ho; obtain ⟨a98, c98, rfl⟩ := row_form ho; have C98 : 3 ≤ c98 := row_cap ho; have O98 := Hd (owns_weak ho XC.out.size); clear ho; replace O93 := Hd (owns_ext O93.out hx); replace XC := Hd (XC.out.tr hx); clear hx; refine kG hK (HS.out _ XC.out) fun kh => ?_; (try simp only [kS]); clear kh; revert C98; revert O98; revert c98; revert a98; revert O93; revert c93; revert a93; revert XC; revert wy; exact k17_10_15.out
      }
      refine xK 21 (fun K hK => ?_) ?_
      {
      refine step_buildN tNums rfl rfl [.int .i64 c, .int .i64 0, .int .i64 m] ?_ rfl ?_ [.int .i64 c, .int .i64 0, .int .i64 m] rfl (by omega) (by omega) ?_; rfl
      · simp [Value.cells]
      intro vn wy hx ho; obtain ⟨a104, c104, rfl⟩ := row_form ho; have O104 := Hd (owns_weak ho XC.out.size); clear ho; replace O93 := Hd (owns_ext O93.out hx); replace XC := Hd (XC.out.tr hx); clear hx; refine kG hK (HS.out _ XC.out) fun kh => ?_; (try simp only [kS]); clear kh; revert O104; revert c104; revert a104; revert O93; revert c93; revert a93; revert XC; revert wy; exact k17_10_21.out
      }
      exact nK
      }
      {
      intro wy XC a98 c98 O98 C98 a104 c104 O104; refine rK [10, 18] ?_; refine xK 10 (fun K hK => ?_) ?_
      {
      refine step_buildN tBoolsR rfl rfl [.bool gb] ?_ rfl ?_ [.bool gb] rfl (by omega) (by omega) ?_; rfl
      · simp [Value.cells]
      intro vn wy hx ho; obtain ⟨a93, c93, rfl⟩ := row_form ho; have O93 := Hd (owns_weak ho XC.out.size); clear ho; replace O98 := Hd (owns_ext O98.out hx); replace O104 := Hd (owns_ext O104.out hx); replace XC := Hd (XC.out.tr hx); clear hx; refine kG hK (HS.out _ XC.out) fun kh => ?_; (try simp only [kS]); refine kX 11 kh ?_; simp only [kS]; clear kh; revert O104; revert c104; revert a104; revert C98; revert O98; revert c98; revert a98; revert O93; revert c93; revert a93; revert XC; revert wy; exact k17_10_15_21.out
      }
      refine xK 18 (fun K hK => ?_) ?_
      { have j1 : (h4:Int) ≤ (c98:Int) := Int.ofNat_le.2 (Nat.le_trans HH.out C98); have j0 : (0:Int) ≤ (h4:Int) := Int.natCast_nonneg _; go_simp; refine kG hK (HS.out _ XC.out) fun kh => ?_; (try simp only [kS]); clear kh j0 j1; revert O104; revert c104; revert a104; revert C98; revert O98; revert c98; revert a98; revert XC; revert wy; exact k17_15_18_21.out }
      exact nK
      }
      {
      intro wy XC a98 c98 O98 C98; refine rK [10, 21] ?_; refine xK 10 (fun K hK => ?_) ?_
      {
      refine step_buildN tBoolsR rfl rfl [.bool gb] ?_ rfl ?_ [.bool gb] rfl (by omega) (by omega) ?_; rfl
      · simp [Value.cells]
      intro vn wy hx ho; obtain ⟨a93, c93, rfl⟩ := row_form ho; have O93 := Hd (owns_weak ho XC.out.size); clear ho; replace O98 := Hd (owns_ext O98.out hx); replace XC := Hd (XC.out.tr hx); clear hx; refine kG hK (HS.out _ XC.out) fun kh => ?_; (try simp only [kS]); refine kX 11 kh ?_; simp only [kS]; clear kh; revert C98; revert O98; revert c98; revert a98; revert O93; revert c93; revert a93; revert XC; revert wy; exact k17_10_15_18.out
      }
      refine xK 21 (fun K hK => ?_) ?_
      {
      refine step_buildN tNums rfl rfl [.int .i64 c, .int .i64 0, .int .i64 m] ?_ rfl ?_ [.int .i64 c, .int .i64 0, .int .i64 m] rfl (by omega) (by omega) ?_; rfl
      · simp [Value.cells]
      intro vn wy hx ho; obtain ⟨a104, c104, rfl⟩ := row_form ho; have O104 := Hd (owns_weak ho XC.out.size); clear ho; replace O98 := Hd (owns_ext O98.out hx); replace XC := Hd (XC.out.tr hx); clear hx; refine kG hK (HS.out _ XC.out) fun kh => ?_; (try simp only [kS]); clear kh; revert O104; revert c104; revert a104; revert C98; revert O98; revert c98; revert a98; revert XC; revert wy; exact k17_15_18_21.out
      }
      exact nK
      }
      {
      intro wy XC a93 c93 O93 a104 c104 O104; refine rK [15] ?_; refine xK 15 (fun K hK => ?_) ?_
      {
      refine step_buildN tActsR rfl rfl [.agg #[.int .i64 7, .int .i64 0], .agg #[.int .i64 4, .int .i64 0], .agg #[.int .i64 3, .int .i64 0]] ?_ rfl ?_ [.int .i64 7, .int .i64 0, .int .i64 4, .int .i64 0, .int .i64 3, .int .i64 0] rfl (by omega) (by omega) ?_; rfl
      · simp [Value.cells]
      intro vn wy hx ho; obtain ⟨a98, c98, rfl⟩ := row_form ho; have C98 : 3 ≤ c98 := row_cap ho; have O98 := Hd (owns_weak ho XC.out.size); clear ho; replace O93 := Hd (owns_ext O93.out hx); replace O104 := Hd (owns_ext O104.out hx); replace XC := Hd (XC.out.tr hx); clear hx; refine kG hK (HS.out _ XC.out) fun kh => ?_; (try simp only [kS]); clear kh; revert O104; revert c104; revert a104; revert C98; revert O98; revert c98; revert a98; revert O93; revert c93; revert a93; revert XC; revert wy; exact k17_10_15_21.out
      }
      exact nK
      }
      {
      intro wy XC a93 c93 O93 a98 c98 O98 C98; refine rK [18, 21] ?_; refine xK 18 (fun K hK => ?_) ?_
      { have j1 : (h4:Int) ≤ (c98:Int) := Int.ofNat_le.2 (Nat.le_trans HH.out C98); have j0 : (0:Int) ≤ (h4:Int) := Int.natCast_nonneg _; go_simp; refine kG hK (HS.out _ XC.out) fun kh => ?_; (try simp only [kS]); clear kh j0 j1; revert C98; revert O98; revert c98; revert a98; revert O93; revert c93; revert a93; revert XC; revert wy; exact k17_10_15_18.out }
      refine xK 21 (fun K hK => ?_) ?_
      {
      refine step_buildN tNums rfl rfl [.int .i64 c, .int .i64 0, .int .i64 m] ?_ rfl ?_ [.int .i64 c, .int .i64 0, .int .i64 m] rfl (by omega) (by omega) ?_; rfl
      · simp [Value.cells]
      intro vn wy hx ho; obtain ⟨a104, c104, rfl⟩ := row_form ho; have O104 := Hd (owns_weak ho XC.out.size); clear ho; replace O93 := Hd (owns_ext O93.out hx); replace O98 := Hd (owns_ext O98.out hx); replace XC := Hd (XC.out.tr hx); clear hx; refine kG hK (HS.out _ XC.out) fun kh => ?_; (try simp only [kS]); clear kh; revert O104; revert c104; revert a104; revert C98; revert O98; revert c98; revert a98; revert O93; revert c93; revert a93; revert XC; revert wy; exact k17_10_15_21.out
      }
      exact nK
      }
      {
      intro wy XC a98 c98 O98 C98 a104 c104 O104; refine rK [10] ?_; refine xK 10 (fun K hK => ?_) ?_
      {
      refine step_buildN tBoolsR rfl rfl [.bool gb] ?_ rfl ?_ [.bool gb] rfl (by omega) (by omega) ?_; rfl
      · simp [Value.cells]
      intro vn wy hx ho; obtain ⟨a93, c93, rfl⟩ := row_form ho; have O93 := Hd (owns_weak ho XC.out.size); clear ho; replace O98 := Hd (owns_ext O98.out hx); replace O104 := Hd (owns_ext O104.out hx); replace XC := Hd (XC.out.tr hx); clear hx; refine kG hK (HS.out _ XC.out) fun kh => ?_; (try simp only [kS]); refine kX 11 kh ?_; simp only [kS]; clear kh; revert O104; revert c104; revert a104; revert C98; revert O98; revert c98; revert a98; revert O93; revert c93; revert a93; revert XC; revert wy; exact k17_10_15_18_21.out
      }
      exact nK
      }
      {
      intro wy XC a93 c93 O93 a98 c98 O98 C98 a104 c104 O104; refine rK [18] ?_; refine xK 18 (fun K hK => ?_) ?_
      { have j1 : (h4:Int) ≤ (c98:Int) := Int.ofNat_le.2 (Nat.le_trans HH.out C98); have j0 : (0:Int) ≤ (h4:Int) := Int.natCast_nonneg _; go_simp; refine kG hK (HS.out _ XC.out) fun kh => ?_; (try simp only [kS]); clear kh j0 j1; revert O104; revert c104; revert a104; revert C98; revert O98; revert c98; revert a98; revert O93; revert c93; revert a93; revert XC; revert wy; exact k17_10_15_18_21.out }
      exact nK
      }
      {
      intro wy XC a93 c93 O93 a98 c98 O98 C98; refine rK [21] ?_; refine xK 21 (fun K hK => ?_) ?_
      {
      refine step_buildN tNums rfl rfl [.int .i64 c, .int .i64 0, .int .i64 m] ?_ rfl ?_ [.int .i64 c, .int .i64 0, .int .i64 m] rfl (by omega) (by omega) ?_; rfl
      · simp [Value.cells]
      intro vn wy hx ho; obtain ⟨a104, c104, rfl⟩ := row_form ho; have O104 := Hd (owns_weak ho XC.out.size); clear ho; replace O93 := Hd (owns_ext O93.out hx); replace O98 := Hd (owns_ext O98.out hx); replace XC := Hd (XC.out.tr hx); clear hx; refine kG hK (HS.out _ XC.out) fun kh => ?_; (try simp only [kS]); clear kh; revert O104; revert c104; revert a104; revert C98; revert O98; revert c98; revert a98; revert O93; revert c93; revert a93; revert XC; revert wy; exact k17_10_15_18_21.out
      }
      exact nK
      }
      {
      intro wy XC a93 c93 O93 a98 c98 O98 C98 a104 c104 O104; have ac := AcIn.take' (AcIn.of_owns (l := [(7, 0), (4, 0), (3, 0)]) O98.out (by simp)) (k := h4) HH.out; have hi : Ints wy (.slice a104 3 c104) [(c:Int), 0, (m:Int)] := Sl.of_owns O104.out; refine rK [22] ?_; refine xK 22 (fun K hK => ?_) ?_
      {
      refine cK #[.agg #[.slice a28 1 c28, .int .i64 1, .int .i64 2, .int .i64 3], .agg #[.int .i64 d, .bool f, .slice a54 1 c54, .int .i64 fr], .agg #[.int .i64 gd, .slice a93 1 c93], .slice a98 h4 c98, .slice a104 3 c104] Tryz.func3 (HF.out ⟨gd, [gb]⟩ _ _ (.slice a93 1 c93) (.slice a98 h4 c98) (.slice a104 3 c104) _ XC.out (truths_own O93.out) ac KL4.out hi KC3.out) ?_; rintro e wk ⟨rfl, hx⟩; refine ⟨_, rfl, ?_⟩; have xc := XC.out.tr hx; clear XC hx ac hi; have XC := Hd xc; clear xc; refine kG hK (HS.out _ XC.out) fun kh => ?_; (try simp only [kS]); refine kX 23 kh ?_; simp only [kS]; refine dK ?_ _; clear kh; go_wp2
      go_roundw
      case rel => exact ⟨m + 1, by omega, by go_num, XC⟩
      case measure => simp [intOf] <;> omega
      }
      exact nK
      }
      }
      {
      have i1 : decide ((m:Int) < 8) = false := decide_eq_false (by omega); have c1 := (PB.out.ext HY.out).cell; have c2 := (SB2.out.ext HY.out).cell
      go_wp2_with (
       go_at_call 25; refine (HP.out ((k:Int) % 9 - 1) _ HY.out (by unfold I64; omega)).mono ?_; rintro e w9 ⟨rfl, hx⟩; have y2 := X.out.tr (HY.out.tr hx); clear HY hx c1 c2 X; have X := Hd y2
       clear y2)
      go_roundw
      case rel => exact ⟨k + 1, by omega, by go_num, X⟩
      case measure => simp [intOf] <;> omega
      }
     }
  }
  {
  have i1 : decide ((k:Int) < 192) = false := decide_eq_false (by omega); obtain rfl : k = 192 := (by omega); obtain ⟨wo, rfl⟩ : ∃ W, W = wr := ⟨wr, rfl⟩
  go_upto_region 22 with (fail)
  clear i1
  go_loopw [7] (fun t7 wr => ∃ q : Nat, q ≤ 5 ∧ t7 = .int .i64 q ∧ Hid (Ext w wr)) (fun t7 _ => 5 - (intOf t7).toNat)
  case atStart => exact ⟨0, Nat.zero_le _, rfl, HX⟩
  case round =>
   clear HX; obtain ⟨q, hq, rfl, HX⟩ := hrel
   by_cases hlq : q < 5
   {
   skip; have i1 : (q:Int) < 5 := (by omega); obtain ⟨wo2, rfl⟩ : ∃ W, W = wr := ⟨wr, rfl⟩
   go_upto_region 25 with (
    (with_reducible refine wpList_buildN tNums rfl rfl [.int .i64 (-1), .int .i64 0, .int .i64 9999, .int .i64 10000, .int .i64 10001, .int .i64 999999, .int .i64 1000000, .int .i64 1000001] ?_ rfl ?_ [.int .i64 (-1), .int .i64 0, .int .i64 9999, .int .i64 10000, .int .i64 10001, .int .i64 999999, .int .i64 1000000, .int .i64 1000001] rfl (by omega) (by omega) ?_); rfl
    · simp [Value.cells]
    rintro v118 w1 hx ho; obtain ⟨a118, c118, hv118⟩ := row_form ho; subst hv118; have x1 := HX.out.tr hx; clear HX hx; have X1 := Hd x1; have O118 := Hd ho
    clear x1 ho)
   clear i1
   go_loopw [120] (fun t120 wr => ∃ i : Nat, i ≤ 8 ∧ t120 = .int .i64 i ∧ Hid (Ext w1 wr)) (fun t120 _ => 8 - (intOf t120).toNat)
   case atStart => exact ⟨0, Nat.zero_le _, rfl, Below.refl _ _⟩
   case round =>
    obtain ⟨i, hi, rfl, HY⟩ := hrel
    by_cases hli : i < 8
    {
    obtain ⟨v, hv, hvI⟩ : ∃ v : Int, ([.int .i64 (-1), .int .i64 0, .int .i64 9999, .int .i64 10000, .int .i64 10001, .int .i64 999999, .int .i64 1000000, .int .i64 1000001] : List Value)[i]? = some (.int .i64 v) ∧ I64 v := vs8 i hli; obtain ⟨g8, o8, rfl, hc8⟩ := row_cells O118.out (by omega); have d0 := HY.out.cellSome (hc8 i _ hv); have i0 : (0:Int) ≤ (i:Int) := (by omega); have i1 : (i:Int) < 8 := (by omega); have y1 := HY.out; clear hc8 hv HY; have Y := Hd y1; have HVI := Hd hvI; clear y1 hvI
    go_upto_region 29 with (first
     | (with_reducible refine wpList_buildN tBoolsR rfl rfl [.bool false, .bool true] ?_ rfl ?_ [.bool false, .bool true] rfl (by omega) (by omega) ?_
        rfl
        · simp [Value.cells]
        rintro v124 w2 hx ho; obtain ⟨a124, c124, hv124⟩ := row_form ho; subst hv124; have y2 := Y.out.tr hx; have ob := owns_weak ho Y.out.size; clear Y hx ho d0; have Y := Hd y2; have OB := Hd ob
        clear y2 ob)
     | (with_reducible refine wpList_allocA (t := 24) rfl rfl Tryz.zeroValue24 ?_
        rintro pb w3 hy1 hy2 hy3; have lz : w2.heap.size ≤ pb := hy3; have lp := Nat.le_trans Y.out.size hy3; clear hy3; have PB := Hd hy1; have Z := Hd hy2; have LZ := Hd lz; have LP := Hd lp
        clear hy1 hy2 lz lp)
     | (with_reducible refine wpList_storeK (ty := 24) (cells := #[.slice a124 2 c124, .int .i64 5, .int .i64 5, .int .i64 5]) rfl rfl PB.out ?_ ?_ ?_ ?_ ?_ ?_
        rfl; rfl; rfl; rfl; simp [Value.oneCell']; rintro w4 hb ho; have hx := Z.out.then_only ho (fun q (e : q = pb) => by rw [e]; exact LZ.out); have y2 := Y.out.tr hx; have ob := owns_ext OB.out hx; clear Y OB hx ho Z LZ PB; have Y := Hd y2; have OB := Hd ob; have PB := Hd hb
        clear y2 ob hb)
     | (with_reducible refine wpList_buildN tUnitsS rfl rfl [.agg #[.bool false, .bool true, .bool false, .bool true, .int .i64 4], .agg #[.bool false, .bool false, .bool false, .bool false, .int .i64 0]] ?_ rfl ?_ [.bool false, .bool true, .bool false, .bool true, .int .i64 4, .bool false, .bool false, .bool false, .bool false, .int .i64 0] rfl (by omega) (by omega) ?_
        rfl
        · simp [Value.cells]
        rintro v128 w5 hx ho; obtain ⟨a128, c128, hv128⟩ := row_pos ho (by omega); subst hv128; have y2 := Y.out.tr hx; have ob := owns_ext OB.out hx; have pb2 := PB.out.ext hx; have ou := owns_weak ho Y.out.size; clear Y hx OB PB ho; have Y := Hd y2; have OB := Hd ob; have PB := Hd pb2; have OU := Hd ou
        clear y2 ob pb2 ou)
     | (with_reducible refine wpList_allocA (t := 27) rfl rfl Tryz.zeroValue27 ?_
        rintro sb w6 hy1 hy2 hy3; have lz : w5.heap.size ≤ sb := hy3; have ls := Nat.le_trans Y.out.size hy3; clear hy3; have SB := Hd hy1; have Z := Hd hy2; have LZ := Hd lz; have LS := Hd ls
        clear hy1 hy2 lz ls)
     | (with_reducible refine wpList_storeK (ty := 27) (cells := #[.int .i64 2, .bool false, .slice (some ⟨a128, 0, none⟩) 2 c128, .int .i64 7]) rfl rfl SB.out ?_ ?_ ?_ ?_ ?_ ?_
        rfl; rfl; rfl; rfl; simp [Value.oneCell']; rintro w7 hb ho; have hx := Z.out.then_only ho (fun q (e : q = sb) => by rw [e]; exact LZ.out); have y2 := Y.out.tr hx; have ob := owns_ext OB.out hx; have ou := owns_ext OU.out hx; have pb2 := PB.out.ext hx; have c2 := hb.cell; clear Y OB OU PB hx ho Z SB; have Y := Hd y2; have OB := Hd ob; have OU := Hd ou; have PB := Hd pb2; have SB := Hd hb
        clear y2 ob ou pb2 hb))
    clear i0 i1
    go_upto_region 30 with (
     (with_reducible refine wpList_buildN tPtrI rfl rfl [.pointer (some ⟨pb, 1, none⟩), .pointer (some ⟨pb, 2, none⟩), .pointer (some ⟨pb, 3, none⟩), .pointer (some ⟨sb, 3, none⟩), .pointer (some ⟨a128, 4, none⟩)] ?_ rfl ?_ [.pointer (some ⟨pb, 1, none⟩), .pointer (some ⟨pb, 2, none⟩), .pointer (some ⟨pb, 3, none⟩), .pointer (some ⟨sb, 3, none⟩), .pointer (some ⟨a128, 4, none⟩)] rfl (by omega) (by omega) ?_); rfl
     · simp [Value.cells]
     rintro v138 w8 hx ho; obtain ⟨a138, c138, hv138⟩ := row_form ho; subst hv138; have y2 := Y.out.tr hx; have ob := owns_ext OB.out hx; have ou := owns_ext OU.out hx; have pb2 := PB.out.ext hx; have sb2 := SB.out.ext hx; clear Y OB OU PB SB hx c2; have Y := Hd y2; have OB := Hd ob; have OU := Hd ou; have PB := Hd pb2; have SB := Hd sb2; have OP := Hd ho
     clear y2 ob ou pb2 sb2 ho)
    have hpt : ∃ bk off cs t, ([.pointer (some ⟨pb, 1, none⟩), .pointer (some ⟨pb, 2, none⟩), .pointer (some ⟨pb, 3, none⟩), .pointer (some ⟨sb, 3, none⟩), .pointer (some ⟨a128, 4, none⟩)] : List Value)[q]? = some (.pointer (some ⟨bk, off, none⟩)) ∧ Blk w8 bk cs t ∧ off < cs.size ∧ (∀ W', Blk W' bk (cs.setIfInBounds off (.int .i64 v)) t → Only (fun b => b = bk) w8 W' → ∃ wm tl dt fr ink : Int, Blk W' pb #[.slice a124 2 c124, .int .i64 wm, .int .i64 tl, .int .i64 dt] 24 ∧ Blk W' sb #[.int .i64 2, .bool false, .slice (some ⟨a128, 0, none⟩) 2 c128, .int .i64 fr] 27 ∧ W'.ownsRow w1.heap.size 63 5 (.slice (some ⟨a128, 0, none⟩) 2 c128) 2 [.bool false, .bool true, .bool false, .bool true, .int .i64 ink, .bool false, .bool false, .bool false, .bool false, .int .i64 0] ∧ W'.ownsRow w1.heap.size 4 1 (.slice a124 2 c124) 2 [.bool false, .bool true] ∧ Ext w1 W') := by
     have lp := LP.out; have ls := LS.out; have only1 : ∀ (bk : Nat) (W' : World), w1.heap.size ≤ bk → Only (fun b => b = bk) w8 W' → Ext w1 W' := fun bk W' h k => Y.out.then_only k (fun b (e : b = bk) => by rw [e]; exact h)
     have hpb : ∀ (off : Nat) (W' : World) (cs' : Array Value), cs' = (#[.slice a124 2 c124, .int .i64 5, .int .i64 5, .int .i64 5] : Array Value).setIfInBounds off (.int .i64 v) → Blk W' pb cs' 24 → Only (fun b => b = pb) w8 W' → Blk W' pb cs' 24 ∧ Blk W' sb #[.int .i64 2, .bool false, .slice (some ⟨a128, 0, none⟩) 2 c128, .int .i64 7] 27 ∧ W'.ownsRow w1.heap.size 63 5 (.slice (some ⟨a128, 0, none⟩) 2 c128) 2 [.bool false, .bool true, .bool false, .bool true, .int .i64 4, .bool false, .bool false, .bool false, .bool false, .int .i64 0] ∧ W'.ownsRow w1.heap.size 4 1 (.slice a124 2 c124) 2 [.bool false, .bool true] ∧ Ext w1 W' := fun off W' cs' _ hb ho =>
      ⟨hb, SB.out.only ho (fun e => absurd (blk_ty SB.out (e ▸ PB.out)) (by decide)), owns_only OU.out ho (owns_ne' OU.out PB.out (by decide)), owns_only OB.out ho (owns_ne' OB.out PB.out (by decide)), only1 pb W' lp ho⟩
     have : q = 0 ∨ q = 1 ∨ q = 2 ∨ q = 3 ∨ q = 4 := by omega
     rcases this with rfl | rfl | rfl | rfl | rfl
     · exact ⟨pb, 1, _, _, rfl, PB.out, by simp, fun W' hb ho => ⟨v, 5, 5, 7, 4, hpb 1 W' _ rfl hb ho⟩⟩
     · exact ⟨pb, 2, _, _, rfl, PB.out, by simp, fun W' hb ho => ⟨5, v, 5, 7, 4, hpb 2 W' _ rfl hb ho⟩⟩
     · exact ⟨pb, 3, _, _, rfl, PB.out, by simp, fun W' hb ho => ⟨5, 5, v, 7, 4, hpb 3 W' _ rfl hb ho⟩⟩
     · exact ⟨sb, 3, _, _, rfl, SB.out, by simp, fun W' hb ho => ⟨5, 5, 5, v, 4, PB.out.only ho (fun e => absurd (blk_ty PB.out (e ▸ SB.out)) (by decide)), hb, owns_only OU.out ho (owns_ne' OU.out SB.out (by decide)), owns_only OB.out ho (owns_ne' OB.out SB.out (by decide)), only1 sb W' ls ho⟩⟩
     { obtain ⟨cs, hcs, hsz⟩ := row_room OU.out; have hlu := (OU.out.lt a128 rfl).1; refine ⟨a128, 4, cs, _, rfl, hcs, by omega, fun W' hb ho => ⟨5, 5, 5, 7, v, PB.out.only ho (fun e => absurd (blk_ty PB.out (e ▸ hcs)) (by decide)), SB.out.only ho (fun e => absurd (blk_ty SB.out (e ▸ hcs)) (by decide)), owns_putS OU.out hcs hb, owns_only OB.out ho (fun b hb2 e => ?_), only1 a128 W' hlu ho⟩⟩; obtain ⟨_, cs', h2⟩ := row_blk OB.out b hb2; rw [e] at h2; exact absurd (blk_ty h2 hcs) (by decide) }
    obtain ⟨bk, off, cs, t, hp1, hp2, hp3, hp4⟩ := hpt; obtain ⟨g9, o9, rfl, hc9⟩ := row_cells OP.out (by omega); have d0 := hc9 q _ hp1; have i0 : (0:Int) ≤ (q:Int) := (by omega); have i1 : (q:Int) < 5 := (by omega); clear hc9 hp1 OP OU OB PB SB; have HP2 := Hd hp2; have HP4 := Hd hp4; clear hp2 hp4
    go_cut [] (fun W' => ∃ wm tl dt fr ink : Int, Hid (Blk W' pb #[.slice a124 2 c124, .int .i64 wm, .int .i64 tl, .int .i64 dt] 24) ∧ Hid (Blk W' sb #[.int .i64 2, .bool false, .slice (some ⟨a128, 0, none⟩) 2 c128, .int .i64 fr] 27) ∧ Hid (W'.ownsRow w1.heap.size 63 5 (.slice (some ⟨a128, 0, none⟩) 2 c128) 2 [.bool false, .bool true, .bool false, .bool true, .int .i64 ink, .bool false, .bool false, .bool false, .bool false, .int .i64 0]) ∧ Hid (W'.ownsRow w1.heap.size 4 1 (.slice a124 2 c124) 2 [.bool false, .bool true]) ∧ Hid (Ext w1 W'))
    case first =>
     go_wp2_with (
      (with_reducible refine wpList_setK (b := bk) (i := off) (v := .int .i64 v) rfl rfl HP2.out ?_ ?_ ?_ ?_ ?_ ?_ ?_); rfl; rfl
      · assumption
      rfl; rfl; rfl; rintro w9 hb ho; have hpost := HP4.out w9 hb ho; clear hb ho d0; have POST9 := Hd hpost
      clear hpost)
     go_meet
     case rel => exact POST9.out
    case rest =>
     obtain ⟨wm, tl, dt, fr, ink, PB, SB, OU, OB, Y⟩ := hcut; obtain ⟨wq, rfl⟩ : ∃ W, W = wc := ⟨wc, rfl⟩; have hT : Truths wq (.slice a124 2 c124) [false, true] := truths_own OB.out; have hU : UnIn wq (.slice (some ⟨a128, 0, none⟩) 2 c128) [⟨false, true, false, true, ink⟩, ⟨false, false, false, false, 0⟩] := UnIn.of_owns (us := [⟨false, true, false, true, ink⟩, ⟨false, false, false, false, 0⟩]) OU.out (by simp); have hA := fun (l : List (Int × Int)) (x : Int) vl W (kx : Ext wq W) hv hk hx => HAH.out ⟨[false, true], wm, tl, dt⟩ ⟨2, false, [⟨false, true, false, true, ink⟩, ⟨false, false, false, false, 0⟩], fr⟩ l x (.slice a124 2 c124) (.slice (some ⟨a128, 0, none⟩) 2 c128) vl W (Sl.ext hT kx) (hU.ext kx) hv hk hx; have hP := fun (x : Int) W (kx : Ext wq W) hx => HPH.out ⟨[false, true], wm, tl, dt⟩ ⟨2, false, [⟨false, true, false, true, ink⟩, ⟨false, false, false, false, 0⟩], fr⟩ x (.slice a124 2 c124) (.slice (some ⟨a128, 0, none⟩) 2 c128) W (Sl.ext hT kx) (hU.ext kx) hx; dsimp only at hA hP; have c1 := PB.out.cell; have c2 := SB.out.cell; have z0 : Ext wq wq := Below.refl _ _; clear hT hU OU OB d0 hp3 i0 i1; have HA := Hd hA; have HP := Hd hP; have Z := Hd z0; clear hA hP z0
     go_upto_region 33 with (first
      | (with_reducible refine wpList_buildN tActsR rfl rfl [.agg #[.int .i64 6, .int .i64 0], .agg #[.int .i64 7, .int .i64 0]] ?_ rfl ?_ [.int .i64 6, .int .i64 0, .int .i64 7, .int .i64 0] rfl (by omega) (by omega) ?_
         rfl
         · simp [Value.cells]
         rintro v149 w9 hx ho; obtain ⟨a149, c149, hv149⟩ := row_form ho; subst hv149; have ac : AcIn w9 (.slice a149 2 c149) [(6, 0), (7, 0)] := AcIn.of_owns (l := [(6, 0), (7, 0)]) ho (by simp); have z2 := Z.out.tr hx; clear Z hx ho c1 c2; have c1 := (PB.out.ext z2).cell; have c2 := (SB.out.ext z2).cell; have Z := Hd z2; have AC := Hd ac
         clear z2 ac)
      | (have hgd := HA.out
         go_at_call 24; refine (hgd [(6, 0), (7, 0)] 0 _ _ Z.out AC.out (fun a ha => by simp at ha; rcases ha with rfl | rfl <;> exact ⟨by decide, by decide⟩) ⟨by decide, by decide⟩).mono ?_; rintro e w10 ⟨rfl, hx⟩; have z2 := Z.out.tr hx; clear hgd HA AC Z hx c1 c2; have c1 := (PB.out.ext z2).cell; have c2 := (SB.out.ext z2).cell; have Z := Hd z2
         clear z2)
      | (have hgd := HP.out
         go_at_call 25; refine (hgd 1 _ Z.out ⟨by decide, by decide⟩).mono ?_; rintro e w11 ⟨rfl, hx⟩; have z2 := Z.out.tr hx; clear HP Z hx c1 c2; have c1 := (PB.out.ext z2).cell; have c2 := (SB.out.ext z2).cell; have HP2 := Hd hgd; clear hgd; have Z := Hd z2
         clear z2)
      | (have hgd := HP2.out
         go_at_call 25; refine (hgd 1000001 _ Z.out ⟨by decide, by decide⟩).mono ?_; rintro e w12 ⟨rfl, hx⟩; have z2 := Z.out.tr hx; clear hgd HP2 Z hx c1 c2; have Z := Hd z2
         clear z2))
     have y3 := Y.out.tr Z.out; clear Y Z PB SB; have Y := Hd y3; clear y3; have i1 : (i:Int) < 8 := (by omega); go_wp2
     go_roundw
     case rel => exact ⟨i + 1, by omega, by go_num, Y⟩
     case measure => simp [intOf] <;> omega
    }
    {
    have i1 : decide ((i:Int) < 8) = false := decide_eq_false (by omega); have x2 := X1.out.tr HY.out; clear HY; have X2 := Hd x2; clear x2; go_wp2
    go_roundw
    case rel =>
     repeat apply Exists.intro
     exact ⟨⟨q + 1, by omega, by go_num, X2⟩, rfl⟩
    case measure => simp [intOf] <;> omega
    }
   }
   {
   have i1 : decide ((q:Int) < 5) = false := decide_eq_false (by omega); obtain rfl : q = 5 := (by omega); obtain ⟨wo2, rfl⟩ : ∃ W, W = wr := ⟨wr, rfl⟩
   go_upto_region 35 with (fail)
   clear i1
   go_loopw [13] (fun t13 wr => ∃ q : Nat, q ≤ 5 ∧ t13 = .int .i64 q ∧ Hid (Ext w wr)) (fun t13 _ => 5 - (intOf t13).toNat)
   case atStart => exact ⟨0, Nat.zero_le _, rfl, HX⟩
   case round =>
    clear HX; obtain ⟨q, hq, rfl, HX⟩ := hrel
    by_cases hlq : q < 5
    {
    skip; have i1 : (q:Int) < 5 := by omega
    go_upto_region 37 with (fail)
    have q1 : IntKind.i64.wrap (199 + (q:Int)) = ((199 + q : Nat) : Int) := by
     rw [show (199:Int) + (q:Int) = ((199 + q : Nat) : Int) by omega]; exact i64_eq _ (by omega)
    have xd := HX.out.drew; have n203 : 199 + q ≤ 1000 := by omega
    have kl : ∀ a ∈ List.replicate (199 + q) ((0:Int), (0:Int)), I64 a.1 := fun a ha => by
     have := List.eq_of_mem_replicate ha; subst this; exact ⟨by decide, by decide⟩
    have kx : I64 (q:Int) := ⟨by omega, by omega⟩; have hq4 : q ≤ 4 := (by omega); refine wp_region_K (fun _ => True) 12 (by kernel_rfl) trivial (fun kh => ?_); generalize wr.drew = wy at *; have XC := Hd xd; have Q1 := Hd q1; have KL := Hd kl; have KX := Hd kx; have HQ4 := Hd hq4; have N203 := Hd n203; clear xd q1 kl kx hq4 n203; refine kX 0 kh ?_; simp only [kS]; refine kX 3 kh ?_; simp only [kS]; refine kX 6 kh ?_; simp only [kS]; refine kX 7 kh ?_; simp only [kS]; refine kX 9 kh ?_; simp only [kS]; simp only [Q1.out]; clear kh i1; apply shareH
    case' h => intro k37_1_4_8
    apply shareH
    case' h => intro k37_1_4
    apply shareH
    case' h => intro k37_1_8
    apply shareH
    case' h => intro k37_4_8
    apply shareH
    case' h => intro k37_1
    apply shareH
    case' h => intro k37_4
    apply shareH
    case' h => intro k37_8
    {
    refine rK [1, 4, 8] ?_; refine xK 1 (fun K hK => ?_) ?_
    { refine step_makeN (n := q) tBoolsR rfl rfl rfl rfl (Nat.le_trans (Nat.mul_le_mul_left 1 HQ4.out) (of_decide_eq_true rfl)) ?_; intro wn hown hx; rw [show (madeCells (Value.bool false).cells (q * 1)).toList = (List.replicate q false).map .bool by rw [Nat.mul_one, show (Value.bool false).cells = #[.bool false] from rfl, made_repl, List.map_replicate]] at hown; obtain ⟨b1, hb1⟩ : ∃ b, wy.heap.size = b := ⟨_, rfl⟩; have lb : w.heap.size ≤ b1 := hb1 ▸ XC.out.size; rw [hb1] at hown ⊢; have O1 := Hd (owns_weak hown lb); clear hown hb1 lb; replace XC := Hd (XC.out.tr hx); clear hx; refine kG hK trivial fun kh => ?_; (try simp only [kS]); refine kX 2 kh ?_; simp only [kS]; clear kh; revert O1; revert b1; revert XC; revert wn; exact k37_1.out }
    refine xK 4 (fun K hK => ?_) ?_
    { refine step_makeN (n := q) tUnitsS rfl rfl rfl rfl (Nat.le_trans (Nat.mul_le_mul_left 16 HQ4.out) (of_decide_eq_true rfl)) ?_; intro wn hown hx; rw [show (madeCells (Value.agg #[.bool false, .bool false, .bool false, .bool false, .int .i64 0]).cells (q * 5)).toList = uL (List.replicate q ⟨false, false, false, false, 0⟩) from made_units4 q HQ4.out] at hown; obtain ⟨b4, hb4⟩ : ∃ b, wy.heap.size = b := ⟨_, rfl⟩; have lb : w.heap.size ≤ b4 := hb4 ▸ XC.out.size; rw [hb4] at hown ⊢; have O4 := Hd (owns_weak hown lb); clear hown hb4 lb; replace XC := Hd (XC.out.tr hx); clear hx; refine kG hK trivial fun kh => ?_; (try simp only [kS]); refine kX 5 kh ?_; simp only [kS]; clear kh; revert O4; revert b4; revert XC; revert wn; exact k37_4.out }
    refine xK 8 (fun K hK => ?_) ?_
    { refine step_makeN (n := 199 + q) tActsR rfl rfl rfl rfl (Nat.le_trans (Nat.mul_le_mul_left 16 N203.out) (of_decide_eq_true rfl)) ?_; intro wn hown hx; rw [show (madeCells (Value.agg #[.int .i64 0, .int .i64 0]).cells ((199 + q) * 2)).toList = acL (List.replicate (199 + q) (0, 0)) by rw [acL_zeros]; exact congrArg Array.toList (made_two _ _)] at hown; obtain ⟨b8, hb8⟩ : ∃ b, wy.heap.size = b := ⟨_, rfl⟩; have lb : w.heap.size ≤ b8 := hb8 ▸ XC.out.size; rw [hb8] at hown ⊢; have O8 := Hd (owns_weak hown lb); clear hown hb8 lb; replace XC := Hd (XC.out.tr hx); clear hx; refine kG hK trivial fun kh => ?_; (try simp only [kS]); clear kh; revert O8; revert b8; revert XC; revert wn; exact k37_8.out }
    exact nK
    }
    {
    intro wy XC b8 O8; refine rK [1, 4] ?_; refine xK 1 (fun K hK => ?_) ?_
    { refine step_makeN (n := q) tBoolsR rfl rfl rfl rfl (Nat.le_trans (Nat.mul_le_mul_left 1 HQ4.out) (of_decide_eq_true rfl)) ?_; intro wn hown hx; rw [show (madeCells (Value.bool false).cells (q * 1)).toList = (List.replicate q false).map .bool by rw [Nat.mul_one, show (Value.bool false).cells = #[.bool false] from rfl, made_repl, List.map_replicate]] at hown; obtain ⟨b1, hb1⟩ : ∃ b, wy.heap.size = b := ⟨_, rfl⟩; have lb : w.heap.size ≤ b1 := hb1 ▸ XC.out.size; rw [hb1] at hown ⊢; have O1 := Hd (owns_weak hown lb); clear hown hb1 lb; replace O8 := Hd (owns_ext O8.out hx); replace XC := Hd (XC.out.tr hx); clear hx; refine kG hK trivial fun kh => ?_; (try simp only [kS]); refine kX 2 kh ?_; simp only [kS]; clear kh; revert O8; revert b8; revert O1; revert b1; revert XC; revert wn; exact k37_1_8.out }
    refine xK 4 (fun K hK => ?_) ?_
    { refine step_makeN (n := q) tUnitsS rfl rfl rfl rfl (Nat.le_trans (Nat.mul_le_mul_left 16 HQ4.out) (of_decide_eq_true rfl)) ?_; intro wn hown hx; rw [show (madeCells (Value.agg #[.bool false, .bool false, .bool false, .bool false, .int .i64 0]).cells (q * 5)).toList = uL (List.replicate q ⟨false, false, false, false, 0⟩) from made_units4 q HQ4.out] at hown; obtain ⟨b4, hb4⟩ : ∃ b, wy.heap.size = b := ⟨_, rfl⟩; have lb : w.heap.size ≤ b4 := hb4 ▸ XC.out.size; rw [hb4] at hown ⊢; have O4 := Hd (owns_weak hown lb); clear hown hb4 lb; replace O8 := Hd (owns_ext O8.out hx); replace XC := Hd (XC.out.tr hx); clear hx; refine kG hK trivial fun kh => ?_; (try simp only [kS]); refine kX 5 kh ?_; simp only [kS]; clear kh; revert O8; revert b8; revert O4; revert b4; revert XC; revert wn; exact k37_4_8.out }
    exact nK
    }
    {
    intro wy XC b4 O4; refine rK [1, 8] ?_; refine xK 1 (fun K hK => ?_) ?_
    { refine step_makeN (n := q) tBoolsR rfl rfl rfl rfl (Nat.le_trans (Nat.mul_le_mul_left 1 HQ4.out) (of_decide_eq_true rfl)) ?_; intro wn hown hx; rw [show (madeCells (Value.bool false).cells (q * 1)).toList = (List.replicate q false).map .bool by rw [Nat.mul_one, show (Value.bool false).cells = #[.bool false] from rfl, made_repl, List.map_replicate]] at hown; obtain ⟨b1, hb1⟩ : ∃ b, wy.heap.size = b := ⟨_, rfl⟩; have lb : w.heap.size ≤ b1 := hb1 ▸ XC.out.size; rw [hb1] at hown ⊢; have O1 := Hd (owns_weak hown lb); clear hown hb1 lb; replace O4 := Hd (owns_ext O4.out hx); replace XC := Hd (XC.out.tr hx); clear hx; refine kG hK trivial fun kh => ?_; (try simp only [kS]); refine kX 2 kh ?_; simp only [kS]; clear kh; revert O4; revert b4; revert O1; revert b1; revert XC; revert wn; exact k37_1_4.out }
    refine xK 8 (fun K hK => ?_) ?_
    { refine step_makeN (n := 199 + q) tActsR rfl rfl rfl rfl (Nat.le_trans (Nat.mul_le_mul_left 16 N203.out) (of_decide_eq_true rfl)) ?_; intro wn hown hx; rw [show (madeCells (Value.agg #[.int .i64 0, .int .i64 0]).cells ((199 + q) * 2)).toList = acL (List.replicate (199 + q) (0, 0)) by rw [acL_zeros]; exact congrArg Array.toList (made_two _ _)] at hown; obtain ⟨b8, hb8⟩ : ∃ b, wy.heap.size = b := ⟨_, rfl⟩; have lb : w.heap.size ≤ b8 := hb8 ▸ XC.out.size; rw [hb8] at hown ⊢; have O8 := Hd (owns_weak hown lb); clear hown hb8 lb; replace O4 := Hd (owns_ext O4.out hx); replace XC := Hd (XC.out.tr hx); clear hx; refine kG hK trivial fun kh => ?_; (try simp only [kS]); clear kh; revert O8; revert b8; revert O4; revert b4; revert XC; revert wn; exact k37_4_8.out }
    exact nK
    }
    {
    intro wy XC b1 O1; refine rK [4, 8] ?_; refine xK 4 (fun K hK => ?_) ?_
    { refine step_makeN (n := q) tUnitsS rfl rfl rfl rfl (Nat.le_trans (Nat.mul_le_mul_left 16 HQ4.out) (of_decide_eq_true rfl)) ?_; intro wn hown hx; rw [show (madeCells (Value.agg #[.bool false, .bool false, .bool false, .bool false, .int .i64 0]).cells (q * 5)).toList = uL (List.replicate q ⟨false, false, false, false, 0⟩) from made_units4 q HQ4.out] at hown; obtain ⟨b4, hb4⟩ : ∃ b, wy.heap.size = b := ⟨_, rfl⟩; have lb : w.heap.size ≤ b4 := hb4 ▸ XC.out.size; rw [hb4] at hown ⊢; have O4 := Hd (owns_weak hown lb); clear hown hb4 lb; replace O1 := Hd (owns_ext O1.out hx); replace XC := Hd (XC.out.tr hx); clear hx; refine kG hK trivial fun kh => ?_; (try simp only [kS]); refine kX 5 kh ?_; simp only [kS]; clear kh; revert O4; revert b4; revert O1; revert b1; revert XC; revert wn; exact k37_1_4.out }
    refine xK 8 (fun K hK => ?_) ?_
    { refine step_makeN (n := 199 + q) tActsR rfl rfl rfl rfl (Nat.le_trans (Nat.mul_le_mul_left 16 N203.out) (of_decide_eq_true rfl)) ?_; intro wn hown hx; rw [show (madeCells (Value.agg #[.int .i64 0, .int .i64 0]).cells ((199 + q) * 2)).toList = acL (List.replicate (199 + q) (0, 0)) by rw [acL_zeros]; exact congrArg Array.toList (made_two _ _)] at hown; obtain ⟨b8, hb8⟩ : ∃ b, wy.heap.size = b := ⟨_, rfl⟩; have lb : w.heap.size ≤ b8 := hb8 ▸ XC.out.size; rw [hb8] at hown ⊢; have O8 := Hd (owns_weak hown lb); clear hown hb8 lb; replace O1 := Hd (owns_ext O1.out hx); replace XC := Hd (XC.out.tr hx); clear hx; refine kG hK trivial fun kh => ?_; (try simp only [kS]); clear kh; revert O8; revert b8; revert O1; revert b1; revert XC; revert wn; exact k37_1_8.out }
    exact nK
    }
    {
    intro wy XC b4 O4 b8 O8; refine rK [1] ?_; refine xK 1 (fun K hK => ?_) ?_
    { refine step_makeN (n := q) tBoolsR rfl rfl rfl rfl (Nat.le_trans (Nat.mul_le_mul_left 1 HQ4.out) (of_decide_eq_true rfl)) ?_; intro wn hown hx; rw [show (madeCells (Value.bool false).cells (q * 1)).toList = (List.replicate q false).map .bool by rw [Nat.mul_one, show (Value.bool false).cells = #[.bool false] from rfl, made_repl, List.map_replicate]] at hown; obtain ⟨b1, hb1⟩ : ∃ b, wy.heap.size = b := ⟨_, rfl⟩; have lb : w.heap.size ≤ b1 := hb1 ▸ XC.out.size; rw [hb1] at hown ⊢; have O1 := Hd (owns_weak hown lb); clear hown hb1 lb; replace O4 := Hd (owns_ext O4.out hx); replace O8 := Hd (owns_ext O8.out hx); replace XC := Hd (XC.out.tr hx); clear hx; refine kG hK trivial fun kh => ?_; (try simp only [kS]); refine kX 2 kh ?_; simp only [kS]; clear kh; revert O8; revert b8; revert O4; revert b4; revert O1; revert b1; revert XC; revert wn; exact k37_1_4_8.out }
    exact nK
    }
    {
    intro wy XC b1 O1 b8 O8; refine rK [4] ?_; refine xK 4 (fun K hK => ?_) ?_
    { refine step_makeN (n := q) tUnitsS rfl rfl rfl rfl (Nat.le_trans (Nat.mul_le_mul_left 16 HQ4.out) (of_decide_eq_true rfl)) ?_; intro wn hown hx; rw [show (madeCells (Value.agg #[.bool false, .bool false, .bool false, .bool false, .int .i64 0]).cells (q * 5)).toList = uL (List.replicate q ⟨false, false, false, false, 0⟩) from made_units4 q HQ4.out] at hown; obtain ⟨b4, hb4⟩ : ∃ b, wy.heap.size = b := ⟨_, rfl⟩; have lb : w.heap.size ≤ b4 := hb4 ▸ XC.out.size; rw [hb4] at hown ⊢; have O4 := Hd (owns_weak hown lb); clear hown hb4 lb; replace O1 := Hd (owns_ext O1.out hx); replace O8 := Hd (owns_ext O8.out hx); replace XC := Hd (XC.out.tr hx); clear hx; refine kG hK trivial fun kh => ?_; (try simp only [kS]); refine kX 5 kh ?_; simp only [kS]; clear kh; revert O8; revert b8; revert O4; revert b4; revert O1; revert b1; revert XC; revert wn; exact k37_1_4_8.out }
    exact nK
    }
    {
    intro wy XC b1 O1 b4 O4; refine rK [8] ?_; refine xK 8 (fun K hK => ?_) ?_
    { refine step_makeN (n := 199 + q) tActsR rfl rfl rfl rfl (Nat.le_trans (Nat.mul_le_mul_left 16 N203.out) (of_decide_eq_true rfl)) ?_; intro wn hown hx; rw [show (madeCells (Value.agg #[.int .i64 0, .int .i64 0]).cells ((199 + q) * 2)).toList = acL (List.replicate (199 + q) (0, 0)) by rw [acL_zeros]; exact congrArg Array.toList (made_two _ _)] at hown; obtain ⟨b8, hb8⟩ : ∃ b, wy.heap.size = b := ⟨_, rfl⟩; have lb : w.heap.size ≤ b8 := hb8 ▸ XC.out.size; rw [hb8] at hown ⊢; have O8 := Hd (owns_weak hown lb); clear hown hb8 lb; replace O1 := Hd (owns_ext O1.out hx); replace O4 := Hd (owns_ext O4.out hx); replace XC := Hd (XC.out.tr hx); clear hx; refine kG hK trivial fun kh => ?_; (try simp only [kS]); clear kh; revert O8; revert b8; revert O4; revert b4; revert O1; revert b1; revert XC; revert wn; exact k37_1_4_8.out }
    exact nK
    }
    {
    intro wy XC b1 O1 b4 O4 b8 O8
    have hU : UnIn wy (.slice (some ⟨b4, 0, none⟩) q q) (List.replicate q ⟨false, false, false, false, 0⟩) := by
     have h5 := UnIn.of_owns (us := List.replicate q ⟨false, false, false, false, 0⟩) (by rw [List.length_replicate]; exact O4.out) (by rw [List.length_replicate]; have := HQ4.out; omega); exact h5
    have hV : AcIn wy (.slice (some ⟨b8, 0, none⟩) (199 + q) (199 + q)) (List.replicate (199 + q) (0, 0)) := AcIn.of_owns (l := List.replicate (199 + q) (0, 0)) (by rw [List.length_replicate]; exact O8.out) (by rw [List.length_replicate]; have := HQ4.out; omega); refine rK [10] ?_; refine xK 10 (fun K hK => ?_) ?_
    {
    refine cK #[.agg #[.slice (some ⟨b1, 0, none⟩) q q, .int .i64 0, .int .i64 0, .int .i64 0], .agg #[.int .i64 0, .bool false, .slice (some ⟨b4, 0, none⟩) q q, .int .i64 0], .slice (some ⟨b8, 0, none⟩) (199 + q) (199 + q), .int .i64 q] Tryz.func24 (HAH.out ⟨List.replicate q false, 0, 0, 0⟩ ⟨0, false, List.replicate q ⟨false, false, false, false, 0⟩, 0⟩ _ _ _ _ _ _ (truths_own O1.out) hU hV KL.out KX.out) ?_; rintro e wk ⟨rfl, hx⟩; refine ⟨_, rfl, ?_⟩; have xc := XC.out.tr hx; clear XC hx hU hV; have XC := Hd xc; clear xc; refine kG hK trivial fun kh => ?_; (try simp only [kS]); refine kX 11 kh ?_; simp only [kS]; refine dK ?_ _; clear kh; go_wp2
    go_roundw
    case rel => exact ⟨q + 1, by have := HQ4.out; omega, by have := HQ4.out; go_num, XC⟩
    case measure => first | (simp [intOf]; done) | (have := HQ4.out; simp [intOf]; omega)
    }
    exact nK
    }
    }
    {
    have i1 : decide ((q:Int) < 5) = false := decide_eq_false (by omega); obtain rfl : q = 5 := (by omega); obtain ⟨wo3, rfl⟩ : ∃ W, W = wr := ⟨wr, rfl⟩
    go_upto_region 42 with (first
     | (with_reducible refine wpList_buildN tBoolsR rfl rfl [.bool false, .bool false, .bool true] ?_ rfl ?_ [.bool false, .bool false, .bool true] rfl (by omega) (by omega) ?_
        rfl
        · simp [Value.cells]
        rintro v181 w1 hx ho; obtain ⟨a181, c181, hv181⟩ := row_form ho; subst hv181; have x1 := HX.out.tr hx; clear HX hx; have X := Hd x1; have OJ := Hd ho
        clear x1 ho)
     | (with_reducible refine wpList_allocA (t := 34) rfl rfl Tryz.zeroValue34 ?_
        rintro pb w2 hy1 hy2 hy3; have lz : w1.heap.size ≤ pb := hy3; clear hy3; have PB := Hd hy1; have Z := Hd hy2; have LZ := Hd lz
        clear hy1 hy2 lz)
     | (with_reducible refine wpList_storeK (ty := 34) (cells := #[.slice a181 3 c181, .int .i64 0, .int .i64 0, .int .i64 0]) rfl rfl PB.out ?_ ?_ ?_ ?_ ?_ ?_
        rfl; rfl; rfl; rfl; simp [Value.oneCell']; rintro w3 hb ho; have hx := Z.out.then_only ho (fun q (e : q = pb) => by rw [e]; exact LZ.out); have x1 := X.out.tr hx; have oj := owns_ext OJ.out hx; have tj : Truths w3 (.slice a181 3 c181) p3.jam := truths_own (bs := [false, false, true]) oj; have c1 := hb.cell; clear X OJ hx ho Z LZ PB oj; have X := Hd x1; have TJ := Hd tj; have PB := Hd hb
        clear x1 tj hb)
     | (go_at_call 26
        refine (begin_any p3 (.slice a181 3 c181) _ TJ.out).mono ?_; rintro e w4 hbp; obtain ⟨vu, rfl, ho, hx⟩ := begin_small hbp; obtain ⟨a185, c185, hv185⟩ := row_form ho; subst hv185; have x1 := X.out.tr hx; have tj := Sl.ext TJ.out hx; have pb2 := PB.out.ext hx; clear X TJ PB hx c1 hbp; have X := Hd x1; have TJ := Hd tj; have PB := Hd pb2; have OU := Hd ho
        clear x1 tj pb2 ho)
     | (with_reducible refine wpList_allocA (t := 38) rfl rfl Tryz.zeroValue38 ?_
        rintro sb w5 hy1 hy2 hy3; have lz : w4.heap.size ≤ sb := hy3; clear hy3; have SB := Hd hy1; have Z := Hd hy2; have LZ := Hd lz
        clear hy1 hy2 lz)
     | (with_reducible refine wpList_storeK (ty := 38) (cells := #[.int .i64 0, .bool false, .slice a185 3 c185, .int .i64 0]) rfl rfl SB.out ?_ ?_ ?_ ?_ ?_ ?_
        rfl; rfl; rfl; rfl; simp [Value.oneCell']; rintro w6 hb ho; have hx := Z.out.then_only ho (fun q (e : q = sb) => by rw [e]; exact LZ.out); have x1 := X.out.tr hx; have tj := Sl.ext TJ.out hx; have pb2 := PB.out.ext hx; have ou := owns_ext OU.out hx; have uj : UnIn w6 (.slice a185 3 c185) b3.units := UnIn.of_owns (us := b3.units) ou (by decide); clear X TJ PB OU hx ho Z LZ SB ou; have X := Hd x1; have TJ := Hd tj; have PB := Hd pb2; have UJ := Hd uj; have SB := Hd hb
        clear x1 tj pb2 uj hb)
     | (with_reducible refine wpList_buildN tBoolsR rfl rfl [.bool true, .bool true, .bool false] ?_ rfl ?_ [.bool true, .bool true, .bool false] rfl (by omega) (by omega) ?_
        rfl
        · simp [Value.cells]
        rintro v188 w7 hx ho; obtain ⟨b188, c188, hv188⟩ := row_pos ho (by omega); subst hv188; have lg := (ho.lt b188 rfl).1; have nj : ∀ b, (Value.slice a181 3 c181).ownBlock = some b → ¬ b = b188 := fun b hb e => (by have := truths_lt TJ.out (by decide) b hb; omega); have nu : ∀ b, (Value.slice a185 3 c185).ownBlock = some b → ¬ b = b188 := fun b hb e => (by have := UJ.out.lt (by decide) b hb; omega); have lg2 := Nat.le_trans X.out.size lg; have x1 := X.out.tr hx; have tj := Sl.ext TJ.out hx; have pb2 := PB.out.ext hx; have uj := UJ.out.ext hx; have sb2 := SB.out.ext hx; clear X TJ PB UJ SB hx lg; have X := Hd x1; have TJ := Hd tj; have PB := Hd pb2; have UJ := Hd uj; have SB := Hd sb2; have OG := Hd ho; have NJ := Hd nj; have NU := Hd nu; have LG := Hd lg2
        clear x1 tj pb2 uj sb2 ho nj nu lg2)
     | (with_reducible refine wpList_allocA (t := 40) rfl rfl Tryz.zeroValue40 ?_
        rintro gb w8 hy1 hy2 hy3; have lz : w7.heap.size ≤ gb := hy3; clear hy3; have GB := Hd hy1; have Z := Hd hy2; have LZ := Hd lz
        clear hy1 hy2 lz)
     | (with_reducible refine wpList_storeK (ty := 40) (cells := #[.int .i64 2, .slice (some ⟨b188, 0, none⟩) 3 c188]) rfl rfl GB.out ?_ ?_ ?_ ?_ ?_ ?_
        rfl; rfl; rfl; rfl; simp [Value.oneCell']; rintro w9 hb ho; have hx := Z.out.then_only ho (fun q (e : q = gb) => by rw [e]; exact LZ.out); have x1 := X.out.tr hx; have tj := Sl.ext TJ.out hx; have pb2 := PB.out.ext hx; have uj := UJ.out.ext hx; have sb2 := SB.out.ext hx; have og := owns_ext OG.out hx; clear X TJ PB UJ SB OG hx ho Z LZ GB; have X := Hd x1; have TJ := Hd tj; have PB := Hd pb2; have UJ := Hd uj; have SB := Hd sb2; have OG := Hd og; have GB := Hd hb
        clear x1 tj pb2 uj sb2 og hb))
    have tg : Truths w9 (.slice (some ⟨b188, 0, none⟩) 3 c188) g3.pressed := truths_own (bs := [true, true, false]) OG.out; have c1 := PB.out.cell; have c2 := SB.out.cell; have c3 := GB.out.cell; have y0 : Ext w9 w9 := Below.refl _ _; have TG := Hd tg; have Y := Hd y0; clear tg y0
    go_upto_region 43 with (
     have hgd := TG.out; go_at_call 10; refine (find3 _ _ _ _ TJ.out UJ.out hgd).mono ?_; rintro e w10 ⟨v18, l, rfl, ho, h8, hv0, hli, hx⟩; obtain ⟨a18, c18, hv18⟩ := row_form ho; subst hv18
     have ac : AcIn w10 (.slice a18 8 c18) l := by
      rw [← h8] at ho ⊢; exact AcIn.of_owns ho (by omega)
     clear Y ho c1 c2 c3 hgd; have Y := Hd hx; have AC := Hd ac; have HV0 := Hd hv0; have HLI := Hd hli
     clear hx ac hv0 hli)
    clear h8; have hS : ∀ W, Ext w9 W → ((∀ j, W.cell? ⟨pb, j, none⟩ = (#[.slice a181 3 c181, .int .i64 0, .int .i64 0, .int .i64 0] : Array Value)[j]?) ∧ (∀ j, W.cell? ⟨sb, j, none⟩ = (#[.int .i64 0, .bool false, .slice a185 3 c185, .int .i64 0] : Array Value)[j]?) ∧ (∀ j, W.cell? ⟨gb, j, none⟩ = (#[.int .i64 2, .slice (some ⟨b188, 0, none⟩) 3 c188] : Array Value)[j]?)) := fun W hx => ⟨(PB.out.ext hx).cell, (SB.out.ext hx).cell, (GB.out.ext hx).cell⟩; have xd := Y.out.drew; refine wp_region_K (fun wx => (∀ j, wx.cell? ⟨pb, j, none⟩ = (#[.slice a181 3 c181, .int .i64 0, .int .i64 0, .int .i64 0] : Array Value)[j]?) ∧ (∀ j, wx.cell? ⟨sb, j, none⟩ = (#[.int .i64 0, .bool false, .slice a185 3 c185, .int .i64 0] : Array Value)[j]?) ∧ (∀ j, wx.cell? ⟨gb, j, none⟩ = (#[.int .i64 2, .slice (some ⟨b188, 0, none⟩) 3 c188] : Array Value)[j]?)) 35 (by kernel_rfl) (hS _ xd) (fun kh => ?_); have ac := AC.out.ext (Ext.drew (Below.refl _ w10)); clear Y AC; generalize w10.drew = wy at *; have Y := Hd xd; have HS := Hd hS; have AC := Hd ac; clear xd hS ac; refine kX 0 kh ?_; simp only [kS]; refine kX 1 kh ?_; simp only [kS]; refine kX 2 kh ?_; simp only [kS]; refine kX 3 kh ?_; simp only [kS]; refine kX 4 kh ?_; simp only [kS]; refine kX 5 kh ?_; simp only [kS]; refine kX 6 kh ?_; simp only [kS]; refine kX 7 kh ?_; simp only [kS]; refine kX 8 kh ?_; simp only [kS]; refine kX 9 kh ?_; simp only [kS]; refine kX 10 kh ?_; simp only [kS]; refine kX 11 kh ?_; simp only [kS]; refine kX 12 kh ?_; simp only [kS]; refine kX 13 kh ?_; simp only [kS]; refine kX 14 kh ?_; simp only [kS]; refine kX 15 kh ?_; simp only [kS]; refine rK [16] ?_; refine xK 16 (fun K hK => ?_) ?_
    {
    refine cK #[.agg #[.slice a181 3 c181, .int .i64 0, .int .i64 0, .int .i64 0], .agg #[.int .i64 0, .bool false, .slice a185 3 c185, .int .i64 0], .agg #[.int .i64 2, .slice (some ⟨b188, 0, none⟩) 3 c188], .slice a18 8 c18] Tryz.func13 (verify3 _ _ _ _ (Sl.ext TJ.out Y.out) (UJ.out.ext Y.out) (Sl.ext TG.out Y.out) l _ AC.out HLI.out 0 HV0.out) ?_; rintro e wy ⟨rfl, hx⟩; refine ⟨_, rfl, ?_⟩; have y2 := Y.out.tr hx; clear Y AC hx; have Y := Hd y2; clear y2; refine kG hK (HS.out _ Y.out) fun kh => ?_; (try simp only [kS]); refine kX 17 kh ?_; simp only [kS]; refine kX 18 kh ?_; simp only [kS]; refine kX 19 kh ?_; simp only [kS]; refine kX 20 kh ?_; simp only [kS]; refine kX 21 kh ?_; simp only [kS]; refine kX 22 kh ?_; simp only [kS]; refine rK [23] ?_; refine xK 23 (fun K hK => ?_) ?_
    {
    refine step_makeW (n := 201) tActsP rfl rfl rfl rfl (by decide) ?_; intro wn2 hown hx; rw [show (madeCells (Value.agg #[.int .i64 0, .int .i64 0]).cells (201 * 2)).toList = acL (List.replicate 201 (0, 0)) by rw [acL_zeros]; exact congrArg Array.toList (made_two _ _)] at hown; obtain ⟨b23, hb23⟩ : ∃ b, wy.heap.size = b := ⟨_, rfl⟩; rw [hb23] at hown ⊢; have ac : AcIn wn2 (.slice (some ⟨b23, 0, none⟩) 201 201) (List.replicate 201 (0, 0)) := AcIn.of_owns (l := List.replicate 201 (0, 0)) (by rw [List.length_replicate]; exact hown) (by rw [List.length_replicate]; omega); have y2 := Y.out.tr hx; clear Y hx hown hb23; have Y := Hd y2; have AC := Hd ac; clear y2 ac; refine kG hK (HS.out _ Y.out) fun kh => ?_; (try simp only [kS]); refine rK [24] ?_; refine xK 24 (fun K hK => ?_) ?_
    {
    refine cK #[.agg #[.slice a181 3 c181, .int .i64 0, .int .i64 0, .int .i64 0], .agg #[.int .i64 0, .bool false, .slice a185 3 c185, .int .i64 0], .agg #[.int .i64 2, .slice (some ⟨b188, 0, none⟩) 3 c188], .slice (some ⟨b23, 0, none⟩) 201 201] Tryz.func13 (verify3 _ _ _ _ (Sl.ext TJ.out Y.out) (UJ.out.ext Y.out) (Sl.ext TG.out Y.out) _ _ AC.out zeros_i64 2 (small_many (by rw [List.length_replicate]; omega))) ?_; rintro e wn3 ⟨rfl, hx⟩; refine ⟨_, rfl, ?_⟩; have y2 := Y.out.tr hx; clear Y AC hx; have Y := Hd y2; clear y2; refine kG hK (HS.out _ Y.out) fun kh => ?_; (try simp only [kS]); refine kX 25 kh ?_; simp only [kS]; refine kX 26 kh ?_; simp only [kS]; refine kX 27 kh ?_; simp only [kS]; refine kX 28 kh ?_; simp only [kS]; refine kX 29 kh ?_; simp only [kS]; refine kX 30 kh ?_; simp only [kS]; refine rK [31] ?_; refine xK 31 (fun K hK => ?_) ?_
    {
    refine step_makeW (n := 30001) tNums rfl rfl rfl rfl (by decide) ?_; intro wn4 hown hx; rw [show (madeCells (Value.int .i64 0).cells (30001 * 1)).toList = (List.replicate 30001 (0:Int)).map (Value.int .i64) by rw [Nat.mul_one, show (Value.int .i64 0).cells = #[.int .i64 0] from rfl, made_repl, List.map_replicate]] at hown; obtain ⟨b31, hb31⟩ : ∃ b, wn3.heap.size = b := ⟨_, rfl⟩; rw [hb31] at hown ⊢; have hc : Ints wn4 (.slice (some ⟨b31, 0, none⟩) 30001 30001) (List.replicate 30001 (0:Int)) := Sl.of_owns hown; have y2 := Y.out.tr hx; clear Y hx hown hb31; have Y := Hd y2; have HC := Hd hc; clear y2 hc; refine kG hK (HS.out _ Y.out) fun kh => ?_; (try simp only [kS]); refine rK [32] ?_; refine xK 32 (fun K hK => ?_) ?_
    {
    refine cK #[.agg #[.slice a181 3 c181, .int .i64 0, .int .i64 0, .int .i64 0], .agg #[.int .i64 0, .bool false, .slice a185 3 c185, .int .i64 0], .agg #[.int .i64 2, .slice (some ⟨b188, 0, none⟩) 3 c188], .slice (some ⟨b31, 0, none⟩) 30001 30001] Tryz.func20 (refute3many _ _ _ _ (Sl.ext TJ.out Y.out) (UJ.out.ext Y.out) (Sl.ext TG.out Y.out) _ _ HC.out (fun x hx => by have := List.eq_of_mem_replicate hx; subst this; exact ⟨by decide, by decide⟩) (by rw [List.length_replicate]; omega)) ?_; rintro e wn5 ⟨rfl, hx⟩; refine ⟨_, rfl, ?_⟩; have y2 := Y.out.tr hx; clear Y HC hx; have Y := Hd y2; clear y2; refine kG hK (HS.out _ Y.out) fun kh => ?_; (try simp only [kS]); refine kX 33 kh ?_; simp only [kS]; refine kX 34 kh ?_; simp only [kS]; refine dK ?_ _; obtain ⟨c1, c2, c3⟩ := HS.out _ Y.out; clear kh; obtain ⟨gcs, hgb, hgs⟩ := row_room (owns_ext OG.out Y.out); have HGB := Hd hgb; clear hgb
    go_upto_region 46 with (
     (with_reducible refine wpList_setK (b := b188) (i := 2) (v := .bool true) rfl rfl HGB.out ?_ ?_ ?_ ?_ ?_ ?_ ?_); rfl; rfl; omega; rfl; rfl; rfl; rintro w20 hb ho; have og := owns_putS (owns_ext OG.out Y.out) HGB.out hb; have tg : Truths w20 (.slice (some ⟨b188, 0, none⟩) 3 c188) h3.pressed := truths_own (bs := [true, true, true]) og; have tj := Sl.ext TJ.out Y.out; have uj := UJ.out.ext Y.out; have pb5 := (PB.out.ext Y.out).only ho (fun e => absurd (blk_ty (PB.out.ext Y.out) (e ▸ HGB.out)) (by decide)); have sb5 := (SB.out.ext Y.out).only ho (fun e => absurd (blk_ty (SB.out.ext Y.out) (e ▸ HGB.out)) (by decide)); have gb5 := (GB.out.ext Y.out).only ho (fun e => absurd (blk_ty (GB.out.ext Y.out) (e ▸ HGB.out)) (by decide)); have tj5 : Truths w20 (.slice a181 3 c181) p3.jam := Sl.only tj ho (fun b hb2 e => NJ.out b hb2 e); have uj5 : UnIn w20 (.slice a185 3 c185) b3.units := uj.only ho (fun b hb2 e => NU.out b hb2 e); have x5 := (X.out.tr Y.out).then_only ho (fun b (e : b = b188) => by rw [e]; exact LG.out); clear c1 c2 c3 OG TG TJ UJ PB SB GB X Y HGB hb ho og tj uj; have c1 := pb5.cell; have c2 := sb5.cell; have c3 := gb5.cell; have TG := Hd tg; have TJ := Hd tj5; have UJ := Hd uj5; have PB := Hd pb5; have SB := Hd sb5; have GB := Hd gb5; have X := Hd x5
     clear tg tj5 uj5 pb5 sb5 gb5 x5)
    have y0 : Ext w20 w20 := Below.refl _ _; have Y := Hd y0; clear y0
    go_wp2_with (first
     | (go_at_call 10
        refine (find3no _ _ _ _ (Sl.ext TJ.out Y.out) (UJ.out.ext Y.out) (Sl.ext TG.out Y.out)).mono ?_; rintro e w21 ⟨v21, rfl, hx⟩; have y2 := Y.out.tr hx; clear Y hx c1 c2 c3; have c1 := (PB.out.ext y2).cell; have c2 := (SB.out.ext y2).cell; have c3 := (GB.out.ext y2).cell; have Y := Hd y2; clear y2
        )
     | (go_at_call 16
        refine (closed3 _ _ _ (Sl.ext TJ.out Y.out) (UJ.out.ext Y.out)).mono ?_; rintro e w22 ⟨v22, cs, rfl, hc, hi, hr, hx⟩; obtain ⟨a22, c22, hv22, _⟩ := hc.form; subst hv22; have HC := Hd hc; have HCI := Hd hi; have HCR := Hd hr; clear hc hi hr; have y2 := Y.out.tr hx; clear Y hx c1 c2 c3; have c1 := (PB.out.ext y2).cell; have c2 := (SB.out.ext y2).cell; have c3 := (GB.out.ext y2).cell; have Y := Hd y2; clear y2
        )
     | (go_at_call 20
        refine (refute3 _ _ _ _ (Sl.ext TJ.out Y.out) (UJ.out.ext Y.out) (Sl.ext TG.out Y.out) cs _ HC.out HCI.out HCR.out).mono ?_; rintro e w23 ⟨rfl, hx⟩; clear HC; have y2 := Y.out.tr hx; clear Y hx c1 c2 c3; have c1 := (PB.out.ext y2).cell; have c2 := (SB.out.ext y2).cell; have c3 := (GB.out.ext y2).cell; have Y := Hd y2; clear y2
        )
     | (go_at_call 6
        refine (awake_any _).mono ?_; rintro e w24 ⟨rfl, hx⟩; have y2 := Y.out.tr hx; clear Y hx c1 c2 c3; have c1 := (PB.out.ext y2).cell; have c2 := (SB.out.ext y2).cell; have c3 := (GB.out.ext y2).cell; have Y := Hd y2; clear y2
        ))
    go_ret; exact ⟨rfl, X.out.tr Y.out⟩
    }
    exact nK
    }
    exact nK
    }
    exact nK
    }
    exact nK
    }
    exact nK
    }
   }
  }
end Go.Proofs.YtojobdffnnibaaaGreat