/- A ledger that is kept by deeds. -/
import Derived.Test.YtekplfbfkfiabaaKept0
import Derived.Test.YtekplfbfkfiabaaBkLaw
import Derived.Test.YtekplfbfkfiabaaBkClose
import Derived.Test.YtekplfbfkfiabaaBkKit
import Derived.Deep.CutRange
namespace Go.Proofs.Ytekplfbfkfiabaa
open Go.RowKit
set_option linter.unusedVariables false
set_option linter.unusedSimpArgs false

def KeptPost (w : World) (key : Int) (l : List AccD) (n : Nat) (e : Ending) (w' : World) : Prop :=
  ∃ lb d m day, e = .returned (.tuple #[.pointer (some ⟨lb, 0, none⟩), .bool true]) ∧ LSt w' w.heap.size lb d m ∧ KpI key l n day d ∧ day ≤ 2 * (n : Int) ∧ Ext w w'

set_option maxRecDepth 100000 in
set_option maxHeartbeats 8000000 in
theorem kept_any (key : Int) (l : List AccD) (ds : List DeedD) (va vd : Value) (w : World) (ha : AccIn w va l) (hd : DeedIn w vd ds) (hk : U64 key) (hc : checkE l = 0) (hn : ds.length ≤ 60) :
    Calls Try.prog 27 #[.int .u64 key, va, vd] w (KeptPost w key l ds.length) := by
  have hp : ∀ e w', KeptPost w key l ds.length e w' → KeptPost w key l ds.length e w' := fun _ _ h => h
  have hN := new_any key l va w ha
  have hl : 1 ≤ l.length ∧ l.length ≤ 40 := (LedOk.new hk hc).n1
  obtain ⟨aa, ca, rfl, HA⟩ := ha.form
  obtain ⟨ad, cd, rfl, HD⟩ := hd.form
  clear ha hd
  have HNP : Hid (∀ e w1, NewPost w key l e w1 → ∃ lb m, e = .returned (.tuple #[.pointer (some ⟨lb, 0, none⟩), .int .i64 0]) ∧ LSt w1 w.heap.size lb (newD key l) m ∧ Ext w w1) := fun e w1 hh => by
    rcases hh with ⟨h1, _⟩ | ⟨_, lb, m, h2, h3, _, _, _, h4⟩
    · exact absurd hc h1
    · exact ⟨lb, m, h2, h3, h4⟩
  have hk0 := KpI.new hk hc
  obtain ⟨hl1, hl2⟩ := hl
  have HP := Lib.hid hp
  have HN := Lib.hid hN
  have HK0 := Lib.hid hk0
  have HK := Lib.hid hk
  have HC := Lib.hid hc
  clear hp hN hk0 hk hc
  go_enter Try.func27, Try.ntmps27
  go_upto_region 6 with (
    go_at_call 40
    refine HN.out.mono ?_
    rintro e w1 hnp
    obtain ⟨lb, m, rfl, hls, hx⟩ := HNP.out e w1 hnp
    clear hnp
    have L := Lib.hid hls
    have X := Lib.hid hx
    clear hls hx)
  clear HN HNP
  go_loopw [10, 11] (fun dv iv wr => ∃ (i : Nat) (day : Int) (d : LedD) (m : LMem), i ≤ ds.length ∧ iv = .int .i64 i ∧ dv = .int .i64 day ∧ 0 ≤ day ∧ day ≤ 2 * (i : Int) ∧ Hid (LSt wr w.heap.size lb d m) ∧ Hid (KpI key l i day d) ∧ Hid (Ext w wr)) (fun _ iv _ => ds.length - (intOf iv).toNat)
  case atStart => exact ⟨0, 0, newD key l, m, Nat.zero_le _, rfl, rfl, by omega, by omega, L, HK0, X⟩
  case round =>
    clear L HK0 X
    obtain ⟨i, day, d, m2, hi, rfl, rfl, hd0, hd1, HL, HI, HX⟩ := hrel
    by_cases hlt : i < ds.length
    · obtain ⟨b, o, rfl, hc⟩ := HD.out.cells (by omega)
      obtain ⟨e0, e1, e2, e3, e4, e5⟩ := hc i hlt
      have hx := HX.out
      replace e0 := hx.cellSome e0
      replace e1 := hx.cellSome e1
      replace e2 := hx.cellSome e2
      replace e3 := hx.cellSome e3
      replace e4 := hx.cellSome e4
      replace e5 := hx.cellSome e5
      obtain ⟨hcn, hfit, hc64⟩ := HD.out.2 ds[i] (List.getElem_mem hlt)
      replace hcn := hcn.ext hx
      obtain ⟨x, hxe⟩ : ∃ x, x = ds[i] := ⟨_, rfl⟩
      rw [← hxe] at e0 e1 e2 e3 e4 e5 hcn hfit hc64
      clear hxe hc hx
      obtain ⟨cl, ⟨xf, xt, xa, xd⟩, xv, cn⟩ := x
      dsimp only at e0 e1 e2 e3 e4 e5 hcn hfit hc64
      obtain ⟨f1, f2, f3, f4⟩ := hfit
      obtain ⟨av, cv, rfl, HCN⟩ := hcn.form
      clear hcn
      have hlI : I64 (l.length : Int) := by unfold I64; omega
      have hq0 := fun W => pick_any xd 3 W f4 (by unfold I64; omega)
      have hq1 := fun W => pick_any xf l.length W f1 hlI
      have hq2 := fun W => pick_any xt l.length W f2 hlI
      have hq3 := fun W => pick_any xa 1000 W f3 (by unfold I64; omega)
      have r0 := pick_pos xd 3 (by omega)
      have r1 := pick_pos xf l.length (by omega)
      have r2 := pick_pos xt l.length (by omega)
      have r3 := pick_pos xa 1000 (by omega)
      obtain ⟨p0, hp0⟩ : ∃ p, p = pick xd 3 := ⟨_, rfl⟩
      obtain ⟨p1, hp1⟩ : ∃ p, p = pick xf l.length := ⟨_, rfl⟩
      obtain ⟨p2, hp2⟩ : ∃ p, p = pick xt l.length := ⟨_, rfl⟩
      obtain ⟨p3, hp3⟩ : ∃ p, p = pick xa 1000 := ⟨_, rfl⟩
      rw [← hp0] at hq0 r0
      rw [← hp1] at hq1 r1
      rw [← hp2] at hq2 r2
      rw [← hp3] at hq3 r3
      obtain ⟨r0a, r0b⟩ := r0
      obtain ⟨r3a, r3b⟩ := r3
      have j1 : (0:Int) ≤ (i:Int) := by omega
      have j2 : (i:Int) < (ds.length:Int) := by omega
      have j3 : (i:Int) < 60 := by omega
      have HQ0 := Lib.hid hq0
      have HQ1 := Lib.hid hq1
      have HQ2 := Lib.hid hq2
      have HQ3 := Lib.hid hq3
      have R1 := Lib.hid r1
      have R2 := Lib.hid r2
      have HC64 := Lib.hid hc64
      clear hq0 hq1 hq2 hq3 r1 r2 hc64
      clear hp0 hp1 hp2 hp3 f1 f2 f3 f4 hlI
      go_upto_region 9 with (first
        | (with_reducible refine wpList_allocA (t := 59) rfl rfl Try.zeroValue59 ?_
           rintro pb w3 hb3 hx3 hl3
           have lpb : wr.heap.size ≤ pb := hl3
           have PB := Lib.hid hb3
           have LPB := Lib.hid lpb
           have XZ := Lib.hid hx3
           clear hb3 lpb hx3
           clear hl3)
        | (with_reducible refine wpList_storeK (cells := #[.bool cl, .int .i64 xf, .int .i64 xt, .int .i64 xa, .int .i64 xd, .slice av cn.length cv]) rfl rfl PB.out ?_ ?_ ?_ ?_ ?_ ?_
           · rfl
           · rfl
           · kernel_rfl
           · rfl
           · simp [Value.oneCell']
           rintro w4 hb4 ho4
           have hxz := XZ.out.then_only ho4 (fun q e => by rw [e]; exact LPB.out)
           clear PB XZ ho4
           have PB := Lib.hid hb4
           have XZ := Lib.hid hxz
           clear hb4 hxz))
      clear e0 e1 e2 e3 e4 e5
      have c4 := PB.out.cell 4
      go_upto_region 10 with (
        go_at_call 24
        refine (HQ0.out _).mono ?_
        rintro e w5 ⟨rfl, rfl⟩)
      clear c4 HQ0
      go_cut [13] from 49 to 67 (fun v W => ∃ xb, v = .pointer (some ⟨xb, 0, none⟩) ∧ Hid (Ext w4 W ∧ w4.heap.size ≤ xb ∧ Blk W xb #[.int .i64 p1, .int .i64 p2, .int .i64 (1 + p3), .int .i64 (day + p0)] 60))
      case first =>
        as_aux_lemma =>
          have hxd : Ext w4 w4.drew := (Below.refl _ w4).drew
          have hs0 := PB.out.ext hxd
          refine wp_region_K (fun W => W.cell? ⟨pb, 1, none⟩ = some (.int .i64 xf) ∧ W.cell? ⟨pb, 2, none⟩ = some (.int .i64 xt) ∧ W.cell? ⟨pb, 3, none⟩ = some (.int .i64 xa)) 21 (by kernel_rfl) ⟨hs0.cell 1, hs0.cell 2, hs0.cell 3⟩ (fun hHeld => ?_)
          have PD := Lib.hid hs0
          have XC := Lib.hid hxd
          clear hs0 hxd
          generalize w4.drew = wy at *
          refine wpAnyK_takeL (i := 0) (v := ?_) rfl (by kernel_rfl) (by kernel_rfl) (by kernel_rfl) (by kernel_rfl) (fun _ _ _ h => h) (Or.inl ⟨by rfl, ?_⟩) hHeld ?_
          rotate_left
          · intro w hSw; (try dsimp only at hSw); go_simp; (try with_reducible rfl)
          try simp only [Act.put, List.setIfInBounds_toArray, List.set_cons_zero, List.set_cons_succ]
          refine wpAnyK_takeL (i := 1) (v := ?_) rfl (by kernel_rfl) (by kernel_rfl) (by kernel_rfl) (by kernel_rfl) (fun _ _ _ h => h) (Or.inl ⟨by rfl, ?_⟩) hHeld ?_
          rotate_left
          · intro w hSw; (try dsimp only at hSw); go_simp; (try with_reducible rfl)
          try simp only [Act.put, List.setIfInBounds_toArray, List.set_cons_zero, List.set_cons_succ]
          refine wpAnyK_takeL (i := 2) (v := ?_) rfl (by kernel_rfl) (by kernel_rfl) (by kernel_rfl) (by kernel_rfl) (fun _ _ _ h => h) (Or.inl ⟨by rfl, ?_⟩) hHeld ?_
          rotate_left
          · intro w hSw; (try dsimp only at hSw); go_simp; (try with_reducible rfl)
          try simp only [Act.put, List.setIfInBounds_toArray, List.set_cons_zero, List.set_cons_succ]
          refine wpAnyK_takeL (i := 3) (v := ?_) rfl (by kernel_rfl) (by kernel_rfl) (by kernel_rfl) (by kernel_rfl) (fun _ _ _ h => h) (Or.inl ⟨by rfl, ?_⟩) hHeld ?_
          rotate_left
          · intro w hSw; (try dsimp only at hSw); go_simp; (try with_reducible rfl)
          try simp only [Act.put, List.setIfInBounds_toArray, List.set_cons_zero, List.set_cons_succ]
          refine wpAnyK_takeL (i := 4) (v := ?_) rfl (by kernel_rfl) (by kernel_rfl) (by kernel_rfl) (by kernel_rfl) (fun _ _ _ h => h) (Or.inl ⟨by rfl, ?_⟩) hHeld ?_
          rotate_left
          · intro w hSw; (try dsimp only at hSw); go_simp; (try with_reducible rfl)
          try simp only [Act.put, List.setIfInBounds_toArray, List.set_cons_zero, List.set_cons_succ]
          refine wpAnyK_takeL (i := 6) (v := ?_) rfl (by kernel_rfl) (by kernel_rfl) (by kernel_rfl) (by kernel_rfl) (fun _ _ _ h => h) (Or.inl ⟨by rfl, ?_⟩) hHeld ?_
          rotate_left
          · intro w hSw; (try dsimp only at hSw); go_simp; (try with_reducible rfl)
          try simp only [Act.put, List.setIfInBounds_toArray, List.set_cons_zero, List.set_cons_succ]
          refine wpAnyK_takeL (i := 7) (v := ?_) rfl (by kernel_rfl) (by kernel_rfl) (by kernel_rfl) (by kernel_rfl) (fun _ _ _ h => h) (Or.inl ⟨by rfl, ?_⟩) hHeld ?_
          rotate_left
          · intro w hSw; (try dsimp only at hSw); go_simp; (try with_reducible rfl)
          try simp only [Act.put, List.setIfInBounds_toArray, List.set_cons_zero, List.set_cons_succ]
          refine wpAnyK_takeL (i := 8) (v := ?_) rfl (by kernel_rfl) (by kernel_rfl) (by kernel_rfl) (by kernel_rfl) (fun _ _ _ h => h) (Or.inl ⟨by rfl, ?_⟩) hHeld ?_
          rotate_left
          · intro w hSw; (try dsimp only at hSw); go_simp; (try with_reducible rfl)
          try simp only [Act.put, List.setIfInBounds_toArray, List.set_cons_zero, List.set_cons_succ]
          refine wpAnyK_takeL (i := 9) (v := ?_) rfl (by kernel_rfl) (by kernel_rfl) (by kernel_rfl) (by kernel_rfl) (fun _ _ _ h => h) (Or.inl ⟨by rfl, ?_⟩) hHeld ?_
          rotate_left
          · intro w hSw; (try dsimp only at hSw); go_simp; (try with_reducible rfl)
          try simp only [Act.put, List.setIfInBounds_toArray, List.set_cons_zero, List.set_cons_succ]
          refine wpAnyK_takeL (i := 10) (v := ?_) rfl (by kernel_rfl) (by kernel_rfl) (by kernel_rfl) (by kernel_rfl) (fun _ _ _ h => h) (Or.inl ⟨by rfl, ?_⟩) hHeld ?_
          rotate_left
          · intro w hSw; (try dsimp only at hSw); go_simp; (try with_reducible rfl)
          try simp only [Act.put, List.setIfInBounds_toArray, List.set_cons_zero, List.set_cons_succ]
          refine wpAnyK_takeL (i := 12) (v := ?_) rfl (by kernel_rfl) (by kernel_rfl) (by kernel_rfl) (by kernel_rfl) (fun _ _ _ h => h) (Or.inl ⟨by rfl, ?_⟩) hHeld ?_
          rotate_left
          · intro w hSw; (try dsimp only at hSw); go_simp; (try with_reducible rfl)
          try simp only [Act.put, List.setIfInBounds_toArray, List.set_cons_zero, List.set_cons_succ]
          refine wpAnyK_takeL (i := 13) (v := ?_) rfl (by kernel_rfl) (by kernel_rfl) (by kernel_rfl) (by kernel_rfl) (fun _ _ _ h => h) (Or.inl ⟨by rfl, ?_⟩) hHeld ?_
          rotate_left
          · intro w hSw; (try dsimp only at hSw); go_simp; (try with_reducible rfl)
          try simp only [Act.put, List.setIfInBounds_toArray, List.set_cons_zero, List.set_cons_succ]
          refine wpAnyK_takeL (i := 14) (v := ?_) rfl (by kernel_rfl) (by kernel_rfl) (by kernel_rfl) (by kernel_rfl) (fun _ _ _ h => h) (Or.inl ⟨by rfl, ?_⟩) hHeld ?_
          rotate_left
          · intro w hSw; (try dsimp only at hSw); go_simp; (try with_reducible rfl)
          try simp only [Act.put, List.setIfInBounds_toArray, List.set_cons_zero, List.set_cons_succ]
          refine wpAnyK_takeL (i := 17) (v := ?_) rfl (by kernel_rfl) (by kernel_rfl) (by kernel_rfl) (by kernel_rfl) (fun _ _ _ h => h) (Or.inl ⟨by rfl, ?_⟩) hHeld ?_
          rotate_left
          · intro w hSw; (try dsimp only at hSw); go_simp; (try with_reducible rfl)
          try simp only [Act.put, List.setIfInBounds_toArray, List.set_cons_zero, List.set_cons_succ]
          refine wpAnyK_ready (rs := [5, 19]) (by kernel_rfl) (by simp) ?_
          refine AllReadyK.consL (i := 5) rfl (fun K hK => ?_) ?_
          · refine step_call (vs := #[.int .i64 xf, .int .i64 (l.length : Int)]) rfl rfl rfl Try.func24 (by kernel_rfl) (by kernel_rfl) (HQ1.out _) ?_
            rintro e w7 ⟨rfl, rfl⟩
            refine ⟨_, rfl, ?_⟩
            refine hK.out _ _ (fun _ => ⟨PD.out.cell 1, PD.out.cell 2, PD.out.cell 3⟩) (fun hHeld2 => ?_)
            clear hK K
            try clear hHeld
            have hHeld := hHeld2 (by decide)
            clear hHeld2
            try simp only [Act.put, List.setIfInBounds_toArray, List.set_cons_zero, List.set_cons_succ]
            refine wpAnyK_ready (rs := [11, 19]) (by kernel_rfl) (by simp) ?_
            refine AllReadyK.consL (i := 11) rfl (fun K hK => ?_) ?_
            · refine step_call (vs := #[.int .i64 xt, .int .i64 (l.length : Int)]) rfl rfl rfl Try.func24 (by kernel_rfl) (by kernel_rfl) (HQ2.out _) ?_
              rintro e w7 ⟨rfl, rfl⟩
              refine ⟨_, rfl, ?_⟩
              refine hK.out _ _ (fun _ => ⟨PD.out.cell 1, PD.out.cell 2, PD.out.cell 3⟩) (fun hHeld2 => ?_)
              clear hK K
              try clear hHeld
              have hHeld := hHeld2 (by decide)
              clear hHeld2
              try simp only [Act.put, List.setIfInBounds_toArray, List.set_cons_zero, List.set_cons_succ]
              refine wpAnyK_ready (rs := [15, 19]) (by kernel_rfl) (by simp) ?_
              refine AllReadyK.consL (i := 15) rfl (fun K hK => ?_) ?_
              · refine step_call (vs := #[.int .i64 xa, .int .i64 1000]) rfl rfl rfl Try.func24 (by kernel_rfl) (by kernel_rfl) (HQ3.out _) ?_
                rintro e w7 ⟨rfl, rfl⟩
                refine ⟨_, rfl, ?_⟩
                refine hK.out _ _ (fun _ => ⟨PD.out.cell 1, PD.out.cell 2, PD.out.cell 3⟩) (fun hHeld2 => ?_)
                clear hK K
                try clear hHeld
                have hHeld := hHeld2 (by decide)
                clear hHeld2
                try simp only [Act.put, List.setIfInBounds_toArray, List.set_cons_zero, List.set_cons_succ]
                refine wpAnyK_takeL (i := 16) (v := ?_) rfl (by kernel_rfl) (by kernel_rfl) (by kernel_rfl) (by kernel_rfl) (fun _ _ _ h => h) (Or.inl ⟨by rfl, ?_⟩) hHeld ?_
                rotate_left
                · intro w hSw; (try dsimp only at hSw); go_simp; (try with_reducible rfl)
                try simp only [Act.put, List.setIfInBounds_toArray, List.set_cons_zero, List.set_cons_succ]
                refine wpAnyK_takeL (i := 18) (v := ?_) rfl (by kernel_rfl) (by kernel_rfl) (by kernel_rfl) (by kernel_rfl) (fun _ _ _ h => h) (Or.inl ⟨by rfl, ?_⟩) hHeld ?_
                rotate_left
                · intro w hSw; (try dsimp only at hSw); go_simp; (try with_reducible rfl)
                try simp only [Act.put, List.setIfInBounds_toArray, List.set_cons_zero, List.set_cons_succ]
                refine wpAnyK_ready (rs := [19]) (by kernel_rfl) (by simp) ?_
                refine AllReadyK.consL (i := 19) rfl (fun K hK => ?_) ?_
                · refine step_allocA rfl rfl Try.zeroValue60 ?_
                  intro xb wn hb hx hl
                  have lxb := Nat.le_trans XC.out.size hl
                  have npx : xb ≠ pb := by have := PD.out.lt; omega
                  replace PD := Lib.hid (PD.out.ext hx)
                  replace XC := Lib.hid (XC.out.ext hx)
                  have XB := Lib.hid hb
                  have LXB := Lib.hid lxb
                  have NPX := Lib.hid npx
                  clear hb lxb npx
                  clear hx hl
                  refine hK.out _ _ (fun _ => ⟨PD.out.cell 1, PD.out.cell 2, PD.out.cell 3⟩) (fun hHeld2 => ?_)
                  clear hK K
                  try clear hHeld
                  have hHeld := hHeld2 (by decide)
                  clear hHeld2
                  try simp only [Act.put, List.setIfInBounds_toArray, List.set_cons_zero, List.set_cons_succ]
                  refine wpAnyK_ready (rs := [20]) (by kernel_rfl) (by simp) ?_
                  refine AllReadyK.consL (i := 20) rfl (fun K hK => ?_) ?_
                  · refine step_storeK (cells := #[.int .i64 p1, .int .i64 p2, .int .i64 (IntKind.i64.wrap (1 + p3)), .int .i64 (day + p0)]) rfl rfl XB.out rfl rfl (by kernel_rfl) rfl (by simp [Value.oneCell']) ?_
                    intro wm hb ho
                    have hx2 := XC.out.then_only ho (fun q e => by rw [e]; exact LXB.out)
                    rw [i64_eq (1 + p3) (by omega)] at hb
                    have pd2 := PD.out.only ho (fun e => NPX.out e.symm)
                    clear PD XC
                    have PD := Lib.hid pd2
                    have XC := Lib.hid hx2
                    clear pd2 hx2
                    clear ho
                    refine hK.out _ _ (fun _ => ⟨PD.out.cell 1, PD.out.cell 2, PD.out.cell 3⟩) (fun hHeld2 => ?_)
                    clear hK K
                    try clear hHeld
                    have hHeld := hHeld2 (by decide)
                    clear hHeld2
                    try simp only [Act.put, List.setIfInBounds_toArray, List.set_cons_zero, List.set_cons_succ]
                    clear hHeld
                    refine wpAnyK_done (by kernel_rfl) ?_ _
                    go_wp2
                    go_meet
                    case rel => exact ⟨xb, rfl, XC.out, LXB.out, hb⟩
                  · exact AllReadyK.nil
                · exact AllReadyK.nil
              refine AllReadyK.consL (i := 19) rfl (fun K hK => ?_) ?_
              · refine step_allocA rfl rfl Try.zeroValue60 ?_
                intro xb wn hb hx hl
                have lxb := Nat.le_trans XC.out.size hl
                have npx : xb ≠ pb := by have := PD.out.lt; omega
                replace PD := Lib.hid (PD.out.ext hx)
                replace XC := Lib.hid (XC.out.ext hx)
                have XB := Lib.hid hb
                have LXB := Lib.hid lxb
                have NPX := Lib.hid npx
                clear hb lxb npx
                clear hx hl
                refine hK.out _ _ (fun _ => ⟨PD.out.cell 1, PD.out.cell 2, PD.out.cell 3⟩) (fun hHeld2 => ?_)
                clear hK K
                try clear hHeld
                have hHeld := hHeld2 (by decide)
                clear hHeld2
                try simp only [Act.put, List.setIfInBounds_toArray, List.set_cons_zero, List.set_cons_succ]
                refine wpAnyK_ready (rs := [15]) (by kernel_rfl) (by simp) ?_
                refine AllReadyK.consL (i := 15) rfl (fun K hK => ?_) ?_
                · refine step_call (vs := #[.int .i64 xa, .int .i64 1000]) rfl rfl rfl Try.func24 (by kernel_rfl) (by kernel_rfl) (HQ3.out _) ?_
                  rintro e w7 ⟨rfl, rfl⟩
                  refine ⟨_, rfl, ?_⟩
                  refine hK.out _ _ (fun _ => ⟨PD.out.cell 1, PD.out.cell 2, PD.out.cell 3⟩) (fun hHeld2 => ?_)
                  clear hK K
                  try clear hHeld
                  have hHeld := hHeld2 (by decide)
                  clear hHeld2
                  try simp only [Act.put, List.setIfInBounds_toArray, List.set_cons_zero, List.set_cons_succ]
                  refine wpAnyK_takeL (i := 16) (v := ?_) rfl (by kernel_rfl) (by kernel_rfl) (by kernel_rfl) (by kernel_rfl) (fun _ _ _ h => h) (Or.inl ⟨by rfl, ?_⟩) hHeld ?_
                  rotate_left
                  · intro w hSw; (try dsimp only at hSw); go_simp; (try with_reducible rfl)
                  try simp only [Act.put, List.setIfInBounds_toArray, List.set_cons_zero, List.set_cons_succ]
                  refine wpAnyK_takeL (i := 18) (v := ?_) rfl (by kernel_rfl) (by kernel_rfl) (by kernel_rfl) (by kernel_rfl) (fun _ _ _ h => h) (Or.inl ⟨by rfl, ?_⟩) hHeld ?_
                  rotate_left
                  · intro w hSw; (try dsimp only at hSw); go_simp; (try with_reducible rfl)
                  try simp only [Act.put, List.setIfInBounds_toArray, List.set_cons_zero, List.set_cons_succ]
                  refine wpAnyK_ready (rs := [20]) (by kernel_rfl) (by simp) ?_
                  refine AllReadyK.consL (i := 20) rfl (fun K hK => ?_) ?_
                  · refine step_storeK (cells := #[.int .i64 p1, .int .i64 p2, .int .i64 (IntKind.i64.wrap (1 + p3)), .int .i64 (day + p0)]) rfl rfl XB.out rfl rfl (by kernel_rfl) rfl (by simp [Value.oneCell']) ?_
                    intro wm hb ho
                    have hx2 := XC.out.then_only ho (fun q e => by rw [e]; exact LXB.out)
                    rw [i64_eq (1 + p3) (by omega)] at hb
                    have pd2 := PD.out.only ho (fun e => NPX.out e.symm)
                    clear PD XC
                    have PD := Lib.hid pd2
                    have XC := Lib.hid hx2
                    clear pd2 hx2
                    clear ho
                    refine hK.out _ _ (fun _ => ⟨PD.out.cell 1, PD.out.cell 2, PD.out.cell 3⟩) (fun hHeld2 => ?_)
                    clear hK K
                    try clear hHeld
                    have hHeld := hHeld2 (by decide)
                    clear hHeld2
                    try simp only [Act.put, List.setIfInBounds_toArray, List.set_cons_zero, List.set_cons_succ]
                    clear hHeld
                    refine wpAnyK_done (by kernel_rfl) ?_ _
                    go_wp2
                    go_meet
                    case rel => exact ⟨xb, rfl, XC.out, LXB.out, hb⟩
                  · exact AllReadyK.nil
                · exact AllReadyK.nil
              · exact AllReadyK.nil
            refine AllReadyK.consL (i := 19) rfl (fun K hK => ?_) ?_
            · refine step_allocA rfl rfl Try.zeroValue60 ?_
              intro xb wn hb hx hl
              have lxb := Nat.le_trans XC.out.size hl
              have npx : xb ≠ pb := by have := PD.out.lt; omega
              replace PD := Lib.hid (PD.out.ext hx)
              replace XC := Lib.hid (XC.out.ext hx)
              have XB := Lib.hid hb
              have LXB := Lib.hid lxb
              have NPX := Lib.hid npx
              clear hb lxb npx
              clear hx hl
              refine hK.out _ _ (fun _ => ⟨PD.out.cell 1, PD.out.cell 2, PD.out.cell 3⟩) (fun hHeld2 => ?_)
              clear hK K
              try clear hHeld
              have hHeld := hHeld2 (by decide)
              clear hHeld2
              try simp only [Act.put, List.setIfInBounds_toArray, List.set_cons_zero, List.set_cons_succ]
              refine wpAnyK_ready (rs := [11]) (by kernel_rfl) (by simp) ?_
              refine AllReadyK.consL (i := 11) rfl (fun K hK => ?_) ?_
              · refine step_call (vs := #[.int .i64 xt, .int .i64 (l.length : Int)]) rfl rfl rfl Try.func24 (by kernel_rfl) (by kernel_rfl) (HQ2.out _) ?_
                rintro e w7 ⟨rfl, rfl⟩
                refine ⟨_, rfl, ?_⟩
                refine hK.out _ _ (fun _ => ⟨PD.out.cell 1, PD.out.cell 2, PD.out.cell 3⟩) (fun hHeld2 => ?_)
                clear hK K
                try clear hHeld
                have hHeld := hHeld2 (by decide)
                clear hHeld2
                try simp only [Act.put, List.setIfInBounds_toArray, List.set_cons_zero, List.set_cons_succ]
                refine wpAnyK_ready (rs := [15]) (by kernel_rfl) (by simp) ?_
                refine AllReadyK.consL (i := 15) rfl (fun K hK => ?_) ?_
                · refine step_call (vs := #[.int .i64 xa, .int .i64 1000]) rfl rfl rfl Try.func24 (by kernel_rfl) (by kernel_rfl) (HQ3.out _) ?_
                  rintro e w7 ⟨rfl, rfl⟩
                  refine ⟨_, rfl, ?_⟩
                  refine hK.out _ _ (fun _ => ⟨PD.out.cell 1, PD.out.cell 2, PD.out.cell 3⟩) (fun hHeld2 => ?_)
                  clear hK K
                  try clear hHeld
                  have hHeld := hHeld2 (by decide)
                  clear hHeld2
                  try simp only [Act.put, List.setIfInBounds_toArray, List.set_cons_zero, List.set_cons_succ]
                  refine wpAnyK_takeL (i := 16) (v := ?_) rfl (by kernel_rfl) (by kernel_rfl) (by kernel_rfl) (by kernel_rfl) (fun _ _ _ h => h) (Or.inl ⟨by rfl, ?_⟩) hHeld ?_
                  rotate_left
                  · intro w hSw; (try dsimp only at hSw); go_simp; (try with_reducible rfl)
                  try simp only [Act.put, List.setIfInBounds_toArray, List.set_cons_zero, List.set_cons_succ]
                  refine wpAnyK_takeL (i := 18) (v := ?_) rfl (by kernel_rfl) (by kernel_rfl) (by kernel_rfl) (by kernel_rfl) (fun _ _ _ h => h) (Or.inl ⟨by rfl, ?_⟩) hHeld ?_
                  rotate_left
                  · intro w hSw; (try dsimp only at hSw); go_simp; (try with_reducible rfl)
                  try simp only [Act.put, List.setIfInBounds_toArray, List.set_cons_zero, List.set_cons_succ]
                  refine wpAnyK_ready (rs := [20]) (by kernel_rfl) (by simp) ?_
                  refine AllReadyK.consL (i := 20) rfl (fun K hK => ?_) ?_
                  · refine step_storeK (cells := #[.int .i64 p1, .int .i64 p2, .int .i64 (IntKind.i64.wrap (1 + p3)), .int .i64 (day + p0)]) rfl rfl XB.out rfl rfl (by kernel_rfl) rfl (by simp [Value.oneCell']) ?_
                    intro wm hb ho
                    have hx2 := XC.out.then_only ho (fun q e => by rw [e]; exact LXB.out)
                    rw [i64_eq (1 + p3) (by omega)] at hb
                    have pd2 := PD.out.only ho (fun e => NPX.out e.symm)
                    clear PD XC
                    have PD := Lib.hid pd2
                    have XC := Lib.hid hx2
                    clear pd2 hx2
                    clear ho
                    refine hK.out _ _ (fun _ => ⟨PD.out.cell 1, PD.out.cell 2, PD.out.cell 3⟩) (fun hHeld2 => ?_)
                    clear hK K
                    try clear hHeld
                    have hHeld := hHeld2 (by decide)
                    clear hHeld2
                    try simp only [Act.put, List.setIfInBounds_toArray, List.set_cons_zero, List.set_cons_succ]
                    clear hHeld
                    refine wpAnyK_done (by kernel_rfl) ?_ _
                    go_wp2
                    go_meet
                    case rel => exact ⟨xb, rfl, XC.out, LXB.out, hb⟩
                  · exact AllReadyK.nil
                · exact AllReadyK.nil
              · exact AllReadyK.nil
            · exact AllReadyK.nil
          refine AllReadyK.consL (i := 19) rfl (fun K hK => ?_) ?_
          · refine step_allocA rfl rfl Try.zeroValue60 ?_
            intro xb wn hb hx hl
            have lxb := Nat.le_trans XC.out.size hl
            have npx : xb ≠ pb := by have := PD.out.lt; omega
            replace PD := Lib.hid (PD.out.ext hx)
            replace XC := Lib.hid (XC.out.ext hx)
            have XB := Lib.hid hb
            have LXB := Lib.hid lxb
            have NPX := Lib.hid npx
            clear hb lxb npx
            clear hx hl
            refine hK.out _ _ (fun _ => ⟨PD.out.cell 1, PD.out.cell 2, PD.out.cell 3⟩) (fun hHeld2 => ?_)
            clear hK K
            try clear hHeld
            have hHeld := hHeld2 (by decide)
            clear hHeld2
            try simp only [Act.put, List.setIfInBounds_toArray, List.set_cons_zero, List.set_cons_succ]
            refine wpAnyK_ready (rs := [5]) (by kernel_rfl) (by simp) ?_
            refine AllReadyK.consL (i := 5) rfl (fun K hK => ?_) ?_
            · refine step_call (vs := #[.int .i64 xf, .int .i64 (l.length : Int)]) rfl rfl rfl Try.func24 (by kernel_rfl) (by kernel_rfl) (HQ1.out _) ?_
              rintro e w7 ⟨rfl, rfl⟩
              refine ⟨_, rfl, ?_⟩
              refine hK.out _ _ (fun _ => ⟨PD.out.cell 1, PD.out.cell 2, PD.out.cell 3⟩) (fun hHeld2 => ?_)
              clear hK K
              try clear hHeld
              have hHeld := hHeld2 (by decide)
              clear hHeld2
              try simp only [Act.put, List.setIfInBounds_toArray, List.set_cons_zero, List.set_cons_succ]
              refine wpAnyK_ready (rs := [11]) (by kernel_rfl) (by simp) ?_
              refine AllReadyK.consL (i := 11) rfl (fun K hK => ?_) ?_
              · refine step_call (vs := #[.int .i64 xt, .int .i64 (l.length : Int)]) rfl rfl rfl Try.func24 (by kernel_rfl) (by kernel_rfl) (HQ2.out _) ?_
                rintro e w7 ⟨rfl, rfl⟩
                refine ⟨_, rfl, ?_⟩
                refine hK.out _ _ (fun _ => ⟨PD.out.cell 1, PD.out.cell 2, PD.out.cell 3⟩) (fun hHeld2 => ?_)
                clear hK K
                try clear hHeld
                have hHeld := hHeld2 (by decide)
                clear hHeld2
                try simp only [Act.put, List.setIfInBounds_toArray, List.set_cons_zero, List.set_cons_succ]
                refine wpAnyK_ready (rs := [15]) (by kernel_rfl) (by simp) ?_
                refine AllReadyK.consL (i := 15) rfl (fun K hK => ?_) ?_
                · refine step_call (vs := #[.int .i64 xa, .int .i64 1000]) rfl rfl rfl Try.func24 (by kernel_rfl) (by kernel_rfl) (HQ3.out _) ?_
                  rintro e w7 ⟨rfl, rfl⟩
                  refine ⟨_, rfl, ?_⟩
                  refine hK.out _ _ (fun _ => ⟨PD.out.cell 1, PD.out.cell 2, PD.out.cell 3⟩) (fun hHeld2 => ?_)
                  clear hK K
                  try clear hHeld
                  have hHeld := hHeld2 (by decide)
                  clear hHeld2
                  try simp only [Act.put, List.setIfInBounds_toArray, List.set_cons_zero, List.set_cons_succ]
                  refine wpAnyK_takeL (i := 16) (v := ?_) rfl (by kernel_rfl) (by kernel_rfl) (by kernel_rfl) (by kernel_rfl) (fun _ _ _ h => h) (Or.inl ⟨by rfl, ?_⟩) hHeld ?_
                  rotate_left
                  · intro w hSw; (try dsimp only at hSw); go_simp; (try with_reducible rfl)
                  try simp only [Act.put, List.setIfInBounds_toArray, List.set_cons_zero, List.set_cons_succ]
                  refine wpAnyK_takeL (i := 18) (v := ?_) rfl (by kernel_rfl) (by kernel_rfl) (by kernel_rfl) (by kernel_rfl) (fun _ _ _ h => h) (Or.inl ⟨by rfl, ?_⟩) hHeld ?_
                  rotate_left
                  · intro w hSw; (try dsimp only at hSw); go_simp; (try with_reducible rfl)
                  try simp only [Act.put, List.setIfInBounds_toArray, List.set_cons_zero, List.set_cons_succ]
                  refine wpAnyK_ready (rs := [20]) (by kernel_rfl) (by simp) ?_
                  refine AllReadyK.consL (i := 20) rfl (fun K hK => ?_) ?_
                  · refine step_storeK (cells := #[.int .i64 p1, .int .i64 p2, .int .i64 (IntKind.i64.wrap (1 + p3)), .int .i64 (day + p0)]) rfl rfl XB.out rfl rfl (by kernel_rfl) rfl (by simp [Value.oneCell']) ?_
                    intro wm hb ho
                    have hx2 := XC.out.then_only ho (fun q e => by rw [e]; exact LXB.out)
                    rw [i64_eq (1 + p3) (by omega)] at hb
                    have pd2 := PD.out.only ho (fun e => NPX.out e.symm)
                    clear PD XC
                    have PD := Lib.hid pd2
                    have XC := Lib.hid hx2
                    clear pd2 hx2
                    clear ho
                    refine hK.out _ _ (fun _ => ⟨PD.out.cell 1, PD.out.cell 2, PD.out.cell 3⟩) (fun hHeld2 => ?_)
                    clear hK K
                    try clear hHeld
                    have hHeld := hHeld2 (by decide)
                    clear hHeld2
                    try simp only [Act.put, List.setIfInBounds_toArray, List.set_cons_zero, List.set_cons_succ]
                    clear hHeld
                    refine wpAnyK_done (by kernel_rfl) ?_ _
                    go_wp2
                    go_meet
                    case rel => exact ⟨xb, rfl, XC.out, LXB.out, hb⟩
                  · exact AllReadyK.nil
                · exact AllReadyK.nil
              · exact AllReadyK.nil
            · exact AllReadyK.nil
          · exact AllReadyK.nil
      case rest =>
        obtain ⟨xb, rfl, HCUT⟩ := hcut
        obtain ⟨hx4, _, hxb⟩ := HCUT.out
        have hxz := XZ.out.tr hx4
        have hpb := PB.out.ext hx4
        have hxw := HX.out.tr hxz
        have hday : 0 ≤ day + p0 ∧ day + p0 ≤ 2 * ((i + 1 : Nat) : Int) := by push_cast; omega
        have hdd : day ≤ day + p0 := by omega
        have hd100 : 0 ≤ day + p0 ∧ day + p0 ≤ 100000 := by omega
        have hn60 : i ≤ 60 := by omega
        have hls := HL.out.ext hxz
        have hxz2 := hxz
        have c0 := hpb.cell 0
        have c5 := hpb.cell 5
        clear PB XZ LPB HCUT hx4 hxz HL HQ1 HQ2 HQ3
        obtain ⟨dy, hdy⟩ : ∃ y, y = day + p0 := ⟨_, rfl⟩
        rw [← hdy] at hday hdd hd100 hxb
        obtain ⟨hday1, hday2⟩ := hday
        obtain ⟨hd1a, hd1b⟩ := hd100
        have HDD := Lib.hid hdd
        rw [← hdy]
        have XW2 := Lib.hid hxz2
        have HL := Lib.hid hls
        have XW := Lib.hid hxw
        have PB := Lib.hid hpb
        clear hls hxw hpb
        clear hdy hdd
        cases cl with
        | false =>
          as_aux_lemma =>
            have x0 := hxb.cell 0
            have x1 := hxb.cell 1
            have x2 := hxb.cell 2
            have x3 := hxb.cell 3
            have hft : (⟨p1, p2, 1 + p3, dy⟩ : EntD).fits := by
              have := R1.out
              have := R2.out
              refine ⟨?_, ?_, ?_, ?_⟩ <;> (unfold I64; dsimp only; omega)
            have hpo := post_any w.heap.size lb d m2 ⟨p1, p2, 1 + p3, dy⟩ wc HL.out HI.out.ok XW.out.size hft
            unfold entV at hpo
            dsimp only at hpo
            obtain ⟨ke1, ke2, ke3, ke4⟩ := HI.out.err hn60 HDD.out ⟨by omega, by omega⟩ (x := ⟨p1, p2, 1 + p3, dy⟩) ⟨by dsimp only; omega, by dsimp only; omega⟩ rfl
            by_cases q0 : postErr d ⟨p1, p2, 1 + p3, dy⟩ = 0
            · have hi2 := HI.out.post HDD.out q0 (by dsimp only; omega) (Int.le_refl _)
              have HGD : Hid (∀ e w', PostPost wc w.heap.size lb d m2 ⟨p1, p2, 1 + p3, dy⟩ e w' → e = .returned (.int .i64 0) ∧ ∃ m3, LSt w' w.heap.size lb (postD d ⟨p1, p2, 1 + p3, dy⟩) m3 ∧ Ext w w') := fun e w' hh => by
                obtain ⟨g1, v', g2, _, g3⟩ := hh.good q0
                exact ⟨g1, _, g2, XW.out.then_only g3 (fun q hq => by
                  rcases hq with hq | hq
                  · rw [hq]; exact HL.out.blt
                  · exact (HL.out.ents.lt q hq).1)⟩
              have HPO := Lib.hid hpo
              have HI2 := Lib.hid hi2
              clear hpo hi2
              clear ke1 ke2 ke3 ke4 q0 hft
              go_wp2_with (
                go_at_call 31
                refine HPO.out.mono ?_
                rintro e w6 hh
                obtain ⟨rfl, m3, hl6, hx6⟩ := HGD.out e w6 hh
                clear hh x0 x1 x2 x3 c0 c5
                have L6 := Lib.hid hl6
                have X6 := Lib.hid hx6
                clear hl6 hx6)
              go_roundw
              case rel => exact ⟨i + 1, dy, _, m3, by omega, by go_num, rfl, by omega, by omega, L6, HI2, X6⟩
              case measure => simp [intOf]; omega
            · have hi2 := HI.out.stay HDD.out
              have HGD : Hid (∀ e w', PostPost wc w.heap.size lb d m2 ⟨p1, p2, 1 + p3, dy⟩ e w' → e = .returned (.int .i64 (postErr d ⟨p1, p2, 1 + p3, dy⟩)) ∧ LSt w' w.heap.size lb d m2 ∧ Ext w w') := fun e w' hh => by
                obtain ⟨g1, g2⟩ := hh.bad q0
                exact ⟨g1, HL.out.ext g2, XW.out.tr g2⟩
              obtain ⟨er, her⟩ : ∃ er, er = postErr d ⟨p1, p2, 1 + p3, dy⟩ := ⟨_, rfl⟩
              rw [← her] at ke1 ke2 ke3 ke4 HGD
              have t1 : (er == 5) = false := by simpa using ke1
              have t2 : (er == 2) = false := by simpa using ke2
              have t3 : (er == 6) = false := by simpa using ke3
              have t4 : (er == 11) = false := by simpa using ke4
              have HPO := Lib.hid hpo
              have HI2 := Lib.hid hi2
              clear hpo hi2
              clear ke1 ke2 ke3 ke4 q0 hft her
              go_wp2_with (
                go_at_call 31
                refine HPO.out.mono ?_
                rintro e w6 hh
                obtain ⟨rfl, hl6, hx6⟩ := HGD.out e w6 hh
                clear hh x0 x1 x2 x3 c0 c5
                have L6 := Lib.hid hl6
                have X6 := Lib.hid hx6
                clear hl6 hx6)
              go_roundw
              case rel => exact ⟨i + 1, dy, _, m2, by omega, by go_num, rfl, by omega, by omega, L6, HI2, X6⟩
              case measure => simp [intOf]; omega
        | true =>
          as_aux_lemma =>
            clear hxb
            go_upto_region 17 with (fail)
            clear c0 c5
            obtain ⟨wr2, rfl⟩ : ∃ W, W = wr := ⟨wr, rfl⟩
            go_loopw [15, 16] (fun v t w2 => ∃ (k : Nat) (cs : List Int), k ≤ l.length ∧ t = .int .i64 k ∧ Hid (w2.ownsRow wc.heap.size 3 1 v cs.length (cs.map (.int .i64))) ∧ Hid (cs.length = (stkN l k).length) ∧ Hid (∀ c ∈ cs, 0 ≤ c ∧ c ≤ 2999) ∧ Hid (Ext wc w2)) (fun _ t _ => l.length - (intOf t).toNat)
            case atStart => exact ⟨0, [], Nat.zero_le _, rfl, World.ownsRow_nil _ _ _ _, rfl, Lib.hid (by intro c hc; cases hc), Below.refl _ _⟩
            case round =>
              obtain ⟨k, cs, hk, rfl, HV, HLN, HCS, X2⟩ := hrel
              obtain ⟨a1, c1, rfl⟩ := row_form HV.out
              by_cases hlk : k < l.length
              · obtain ⟨b1, o1, rfl, hc1⟩ := HA.out.cells (by omega)
                have hxw2 := XW.out.tr X2.out
                have e1 := hxw2.cellSome (hc1 k hlk).2
                have hss := stkN_succ l k
                have hg : l.getD k default = l[k] := by simp [List.getD, hlk]
                rw [hg] at hss
                have hcl2 : cs.length ≤ 40 := by have := HLN.out; have := stkN_len l k; omega
                obtain ⟨y, hy⟩ : ∃ y, y = l[k] := ⟨_, rfl⟩
                rw [← hy] at e1 hss
                obtain ⟨yg, ys⟩ := y
                dsimp only at e1 hss
                have j5 : (0:Int) ≤ (k:Int) := by omega
                have j6 : (k:Int) < (l.length:Int) := by omega
                have c5 := (PB.out.ext X2.out).cell 5
                have HSS := Lib.hid hss
                clear hss
                clear hc1 hy hg hxw2
                cases ys with
                | false =>
                  go_wp2
                  go_roundw
                  case rel => exact ⟨k + 1, cs, by omega, by go_num, HV, Lib.hid (by rw [HSS.out]; simpa using HLN.out), HCS, X2⟩
                  case measure => simp [intOf]; omega
                | true =>
                  by_cases hcn0 : cn.length = 0
                  · have HYV : Hid ((0:Int) ≤ 0 ∧ (0:Int) ≤ 2999) := Lib.hid ⟨by omega, by omega⟩
                    have j7 : ¬ ((cn.length : Int) > 0) := by omega
                    go_upto_region 18 with (
                      at_builtin
                      refine wpList_app tInts rfl rfl rfl (owns_ext HV.out (ext_lit _ _ _)) rfl (Src.lit _ [.int .i64 (0 : Int)] 1 1 rfl 3 1) (by simp [Value.oneCell']) (by omega) (Nat.le_trans X2.out.size (by simp)) ?_
                      rintro v' w8 q1 q2 q3
                      have hx8 := ext_grown (X2.out.tr (ext_lit _ _ _)) (owns_ext HV.out (ext_lit _ _ _)) q2
                      clear HV X2 q2 q3
                      have HV := Lib.hid q1
                      have X2 := Lib.hid hx8
                      clear q1 hx8)
                    go_wp2
                    go_roundw
                    case rel => exact ⟨k + 1, by omega, by go_num, cs ++ [(0 : Int)], Lib.hid (by have h := HV.out; rw [List.length_append, List.map_append]; exact h), Lib.hid (by rw [HSS.out, List.length_append, List.length_append, HLN.out]; rfl), Lib.hid (by
                      intro c hc
                      rcases List.mem_append.1 hc with hc | hc
                      · exact HCS.out c hc
                      · rw [List.mem_singleton.1 hc]; exact HYV.out)⟩
                    case measure => simp [intOf]; omega
                  · have hq : k % cn.length < cn.length := Nat.mod_lt _ (by omega)
                    have j7 : (cn.length : Int) > 0 := by omega
                    obtain ⟨b3, o3, rfl, hc3⟩ := HCN.out.cells (by omega)
                    have c7 := (XW2.out.tr X2.out).cellSome (hc3 _ hq)
                    have hu6 := HC64.out _ (List.getElem_mem hq)
                    obtain ⟨u, hu⟩ : ∃ u, u = cn[k % cn.length] := ⟨_, rfl⟩
                    rw [← hu] at c7 hu6
                    have hmod : (k : Int).tmod (cn.length : Int) = ((k % cn.length : Nat) : Int) := by rw [Int.ofNat_tmod]
                    obtain ⟨q, hqe⟩ : ∃ q, q = k % cn.length := ⟨_, rfl⟩
                    rw [← hqe] at c7 hq hmod
                    have hqp := fun W => pick_q u 3000 W hu6 (by unfold I64; omega)
                    have hqr := pick_pos u 3000 (by omega)
                    obtain ⟨yv, hyv⟩ : ∃ p, p = pick u 3000 := ⟨_, rfl⟩
                    rw [← hyv] at hqp hqr
                    have HYV : Hid (0 ≤ yv ∧ yv ≤ 2999) := Lib.hid ⟨hqr.1, by omega⟩
                    have j8 : (0:Int) ≤ (q:Int) := by omega
                    have j9 : (q:Int) < (cn.length:Int) := by omega
                    have HQP := Lib.hid hqp
                    clear hqp
                    clear hc3 hu hqe hyv hqr hu6
                    go_upto_region 22 with (fail)
                    go_quiet ((go_at_call 24; exact Calls.quiet_of_same (HQP.out _)))
                    have hxq : Ext wr (wr.drewN nq) := Ext.of_drewN _ _
                    replace HV := Lib.hid (owns_ext HV.out hxq)
                    replace X2 := Lib.hid (X2.out.tr hxq)
                    generalize wr.drewN nq = wq at *
                    clear hxq c5 c7 e1
                    go_upto_region 18 with (
                      at_builtin
                      refine wpList_app tInts rfl rfl rfl (owns_ext HV.out (ext_lit _ _ _)) rfl (Src.lit _ [.int .i64 yv] 1 1 rfl 3 1) (by simp [Value.oneCell']) (by omega) (Nat.le_trans X2.out.size (by simp)) ?_
                      rintro v' w8 q1 q2 q3
                      have hx8 := ext_grown (X2.out.tr (ext_lit _ _ _)) (owns_ext HV.out (ext_lit _ _ _)) q2
                      clear HV X2 q2 q3
                      have HV := Lib.hid q1
                      have X2 := Lib.hid hx8
                      clear q1 hx8)
                    go_wp2
                    go_roundw
                    case rel => exact ⟨k + 1, cs ++ [yv], by omega, by go_num, Lib.hid (by have h := HV.out; rw [List.length_append, List.map_append]; exact h), Lib.hid (by rw [HSS.out, List.length_append, List.length_append, HLN.out]; rfl), Lib.hid (by
                      intro c hc
                      rcases List.mem_append.1 hc with hc | hc
                      · exact HCS.out c hc
                      · rw [List.mem_singleton.1 hc]; exact HYV.out), X2⟩
                    case measure => simp [intOf]; omega
              · obtain rfl : k = l.length := by omega
                have hacc := HI.out.acc
                have hlen : cs.length = d.stk.length := by unfold LedD.stk LedD.n; rw [hacc]; exact HLN.out
                have hcl := HI.out.close hn60 HDD.out ⟨by omega, by omega⟩ hlen HCS.out (day' := dy)
                have hls := HL.out.ext X2.out
                have hxw := XW.out.tr X2.out
                have hcl2 := close_any w.heap.size lb d m2 dy cs (.slice a1 cs.length c1) wr hls HI.out.ok hxw.size (Sl.of_owns HV.out) (by unfold I64; omega) (fun x hx => by have := HCS.out x hx; unfold I64; omega) (fun b hb => by
                  have h1 := HV.out.lt b hb
                  have h2 := HL.out.led.lt
                  refine ⟨by omega, fun h3 => ?_, h1.2⟩
                  have h4 := (HL.out.ents.lt b h3).2
                  omega)
                have HON : Hid (∀ w', Only (fun k => k = lb ∨ m2.ve.ownBlock = some k) wr w' → Ext w w') := fun w' ho => hxw.then_only ho (fun q hq => by
                  rcases hq with hq | hq
                  · rw [hq]; exact HL.out.blt
                  · exact (HL.out.ents.lt q hq).1)
                clear hls hxw hacc hlen
                rcases hcl with ⟨q1, _⟩ | ⟨q1, q2, q3⟩
                · have hi2 := HI.out.stay HDD.out
                  have HGD : Hid (∀ e w', ClosePost wr w.heap.size lb d m2 dy cs e w' → ∃ m3, e = .returned (.tuple #[.slice none 0 0, .int .i64 12]) ∧ LSt w' w.heap.size lb d m3 ∧ Ext w w') := fun e w' ⟨v, m3, g1, g2, _, _, _, g3⟩ => by
                    rw [q1] at g1 g2
                    rcases g2 with ⟨_, g4, g5⟩ | ⟨g4, _⟩
                    · exact ⟨m3, by rw [g1, g4], g5, HON.out w' g3⟩
                    · cases g4
                  have HCL := Lib.hid hcl2
                  have HI2 := Lib.hid hi2
                  clear hcl2 hi2
                  clear q1 hlt hlk HON
                  go_wp2_with (
                    go_at_call 29
                    refine HCL.out.mono ?_
                    rintro e w6 hh
                    obtain ⟨m3, rfl, hl6, hx6⟩ := HGD.out e w6 hh
                    clear hh
                    have L6 := Lib.hid hl6
                    have X6 := Lib.hid hx6
                    clear hl6 hx6)
                  go_roundw
                  case rel => exact ⟨i + 1, dy, _, m3, by omega, by go_num, rfl, by omega, by omega, L6, HI2, X6⟩
                  case measure => simp [intOf]; omega
                · have HGD : Hid (∀ e w', ClosePost wr w.heap.size lb d m2 dy cs e w' → ∃ a3 c3 m3, e = .returned (.tuple #[.slice a3 cs.length c3, .int .i64 0]) ∧ LSt w' w.heap.size lb { (closeF dy d [] (closeP d cs)).1 with closed := dy } m3 ∧ Ext w w') := fun e w' ⟨v, m3, g1, g2, _, _, _, g3⟩ => by
                    rw [q1] at g1 g2
                    rcases g2 with ⟨g4, _⟩ | ⟨_, g4, g5⟩
                    · exact absurd rfl g4
                    · rw [q2] at g4
                      obtain ⟨a3, c3, rfl⟩ := row_form g4
                      exact ⟨a3, c3, m3, g1, g5, HON.out w' g3⟩
                  have HCL := Lib.hid hcl2
                  have HI2 := Lib.hid q3
                  clear hcl2 q3
                  clear q1 q2 hlt hlk HON
                  go_wp2_with (
                    go_at_call 29
                    refine HCL.out.mono ?_
                    rintro e w6 hh
                    obtain ⟨a3, c3, m3, rfl, hl6, hx6⟩ := HGD.out e w6 hh
                    clear hh
                    have L6 := Lib.hid hl6
                    have X6 := Lib.hid hx6
                    clear hl6 hx6)
                  go_roundw
                  case rel => exact ⟨i + 1, dy, _, m3, by omega, by go_num, rfl, by omega, by omega, L6, HI2, X6⟩
                  case measure => simp [intOf]; omega
    · obtain rfl : i = ds.length := by omega
      clear hlt
      go_wp2
      go_ret2
      exact HP.out _ _ ⟨lb, d, m2, day, rfl, HL.out, HI.out, hd1, HX.out⟩
end Go.Proofs.Ytekplfbfkfiabaa
