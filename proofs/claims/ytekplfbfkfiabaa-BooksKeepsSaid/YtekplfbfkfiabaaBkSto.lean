/- Stocks of the program. -/
import Derived.Test.YtekplfbfkfiabaaBkShow
import Derived.Test.YtekplfbfkfiabaaBkStk
import Derived.Test.YtekplfbfkfiabaaGrTab
import Derived.Test.YtekplfbfkfiabaaBkKit
import Derived.Test.YtekplfbfkfiabaaPlainKp
namespace Go.Proofs.Ytekplfbfkfiabaa
open Go.RowKit Go.Shelf
set_option linter.unusedVariables false
set_option linter.unusedSimpArgs false
attribute [local go_sem] Oper.semAt_some

def LedD.stkA (d : LedD) : List Nat := stkN d.acc d.n
def gIdx (d : LedD) (i : Nat) : Nat := ((d.at' (i : Int)).good - 1).toNat
def stoS (d : LedD) (day : Int) (l : List Nat) (o : List Int) : List Int := l.foldl (fun o i => o.set (gIdx d i) (gI o (gIdx d i) + balU i day d.ents)) o
def stkErr (day : Int) : Int := if 0 ≤ day ∧ day ≤ 100000 then 0 else 6
def stoV (d : LedD) (day : Int) : List Int := if stkErr day = 0 then stoS d day d.stkA [0, 0, 0, 0] else []
theorem stoS_snoc (d : LedD) (day : Int) (l : List Nat) (i : Nat) (o : List Int) : stoS d day (l ++ [i]) o = (stoS d day l o).set (gIdx d i) (gI (stoS d day l o) (gIdx d i) + balU i day d.ents) := by
  unfold stoS; rw [List.foldl_append]; rfl
theorem stoS_len (d : LedD) (day : Int) (l : List Nat) : ∀ o, (stoS d day l o).length = o.length := by
  induction l with
  | nil => intro o; rfl
  | cons x xs ih => intro o; show (stoS d day xs _).length = _; rw [ih, List.length_set]

def StoPost (w : World) (d : LedD) (day : Int) (e : Ending) (w' : World) : Prop := ∃ v, e = .returned (.tuple #[v, .int .i64 (stkErr day)]) ∧ Ext w w' ∧ Ints w' v (stoV d day)
set_option maxRecDepth 100000 in
set_option maxHeartbeats 4000000 in
theorem stocks2_any (B lb : Nat) (d : LedD) (m : LMem) (day : Int) (w : World) (h : LSt w B lb d m) (ok : LedOk d) (hgood : ∀ i : Nat, i < d.n → 1 ≤ (d.at' i).good ∧ (d.at' i).good ≤ 4) :
    Calls Try.prog 32 #[.pointer (some ⟨lb, 0, none⟩), .int .i64 day] w (StoPost w d day) := by
  have hp : ∀ e w', StoPost w d day e w' → StoPost w d day e w' := fun _ _ h => h
  have hn := ok.n1
  have c0 := h.c0
  by_cases hd : 0 ≤ day ∧ day ≤ 100000
  · have HE := Lib.hid (show stkErr day = 0 by unfold stkErr; rw [if_pos hd])
    have HV := Lib.hid (show stoV d day = stoS d day d.stkA [0, 0, 0, 0] by unfold stoV; rw [if_pos HE.out])
    obtain ⟨ks, hks⟩ : ∃ ks, ks = d.stkA := ⟨_, rfl⟩
    have hsk := fun (w1 : World) (h1 : LSt w1 B lb d m) => stocks_any d.acc m.va m.ab w1 h1.ca h1.row (by have := hn.2; unfold LedD.n at this; omega)
    have hks2 : stkN d.acc d.acc.length = ks := hks.symm
    rw [hks2] at hsk
    have hkl : ks.length ≤ 40 := by
      rw [hks]
      have := stkN_len d.acc d.n
      unfold LedD.stkA
      omega
    have hkm : ∀ i ∈ ks, i < d.n ∧ (d.at' (i : Int)).stock = true := fun i hi => by
      rw [hks] at hi
      have := stkN_mem hi
      unfold LedD.at'
      rw [Int.toNat_natCast]
      exact this
    rw [← hks] at HV
    have HD := Lib.hid hd
    have HP := Lib.hid hp
    have HSK := Lib.hid hsk
    have HKM := Lib.hid hkm
    have HOK := Lib.hid ok
    have HG := Lib.hid hgood
    have L := Lib.hid h
    clear hp hsk hkm ok hgood h
    clear hks hks2 hd
    go_enter Try.func32, Try.ntmps32
    go_upto_region 7 with (first
      | (go_at_call 66; refine (none_any lb m.ab _ c0).mono ?_; rintro e w' ⟨rfl, rfl⟩)
      | (go_at_call 52; refine (in_true _ _ _ _ HD.out).mono ?_; rintro e w' ⟨rfl, rfl⟩)
      | (with_reducible refine wpList_makeI (n := 4) rfl rfl rfl rfl (by omega) ?_
         rintro g w2 hb hx hl
         replace c0 := hx.cellSome c0
         have X := Lib.hid hx
         have LG := Lib.hid hl
         have OB : Hid (Blk w2 g (iA (stoS d day (ks.take 0) [0, 0, 0, 0])) 3) := hb
         clear hb hx hl)
      | (go_at_call 69
         refine (HSK.out _ (L.out.ext X.out)).mono ?_
         rintro e w3 ⟨vs, rfl, hx3, hs3⟩
         obtain ⟨avs, cvs, rfl⟩ := row_form hs3
         have hs4 : Ints w3 (.slice avs ks.length cvs) (ks.map fun i : Nat => (i : Int)) := by
           have h : Sl w3 (.slice avs ks.length cvs) (stkV ks) := Sl.of_owns hs3
           unfold Ints
           rw [List.map_map]
           exact h
         have nvg : ∀ b, (Value.slice avs ks.length cvs).ownBlock = some b → b ≠ g := fun b hb e => by
           have h1 := (hs3.lt b hb).1
           have h2 := OB.out.lt
           omega
         replace X := Lib.hid (X.out.ext hx3)
         replace OB := Lib.hid (OB.out.ext hx3)
         have SK := Lib.hid hs4
         have NVG := Lib.hid nvg
         clear hs4 nvg
         clear c0 hs3 hx3))
    obtain ⟨w0, hw0⟩ : ∃ W, W = w3 := ⟨w3, rfl⟩
    have HS0 : Hid (Only (fun q => q = g) w0 w3) := by rw [hw0]; exact Only.refl _ _
    have nlg : g < w0.heap.size := by rw [hw0]; exact OB.out.lt
    have hvb : ∀ b, (Value.slice avs ks.length cvs).ownBlock = some b → b ≠ g := NVG.out
    rw [← hw0] at SK X
    have NLG := Lib.hid nlg
    have HVB := Lib.hid hvb
    clear nlg hvb
    clear hw0 NVG
    go_loopw [23] (fun t wr => ∃ k : Nat, k ≤ ks.length ∧ t = .int .i64 k ∧ Hid (Blk wr g (iA (stoS d day (ks.take k) [0, 0, 0, 0])) 3) ∧ Hid (Small ((k : Int) * 5000000000000000) (stoS d day (ks.take k) [0, 0, 0, 0])) ∧ Hid (Only (fun q => q = g) w0 wr)) (fun t _ => ks.length - (intOf t).toNat)
    case atStart => exact ⟨0, Nat.zero_le _, rfl, OB.out, Lib.hid (by intro x hx; rw [List.take_zero] at hx; have hx2 : x ∈ [(0:Int), 0, 0, 0] := hx; simp at hx2; subst hx2; omega), HS0.out⟩
    case round =>
      clear OB HS0
      obtain ⟨k, hk, rfl, HB, HM, HO⟩ := hrel
      have hxr := X.out.then_only HO.out (fun q e => by rw [e]; exact LG.out)
      by_cases hlt : k < ks.length
      · have hml : (ks.map fun i : Nat => (i : Int)).length = ks.length := by simp
        have hsr := Sl.only SK.out HO.out (fun b hb e => HVB.out b hb e)
        have hsr2 : Ints wr (.slice avs ks.length cvs) (ks.map fun i : Nat => (i : Int)) := hsr
        obtain ⟨bs, os, rfl, hcs⟩ := Ints.cells hsr2 (by omega)
        have ck := hcs k (by rw [hml]; exact hlt)
        rw [List.getElem_map] at ck
        obtain ⟨hil, his⟩ := HKM.out ks[k] (List.getElem_mem hlt)
        have hst : stoS d day (ks.take (k + 1)) [0, 0, 0, 0] = (stoS d day (ks.take k) [0, 0, 0, 0]).set (gIdx d ks[k]) (gI (stoS d day (ks.take k) [0, 0, 0, 0]) (gIdx d ks[k]) + balU ks[k] day d.ents) := by
          rw [List.take_succ_eq_append_getElem hlt, stoS_snoc]
        have hgd := HG.out ks[k] hil
        obtain ⟨i, hi⟩ : ∃ i, i = ks[k] := ⟨_, rfl⟩
        rw [← hi] at ck hil hst hgd
        have hls := L.out.ext hxr
        obtain ⟨aa, ca, hva, HA⟩ := hls.row.form
        obtain ⟨ba, oa, haa, hca⟩ := HA.out.cells (by have : i < d.acc.length := hil; omega)
        have cg := (hca i hil).1
        have hat : (d.at' (i : Int)).good = (d.acc[i]'hil).good := by rw [at_nat hil]
        rw [← hat] at cg
        obtain ⟨gi, hgi⟩ : ∃ gi, gi = gIdx d i := ⟨_, rfl⟩
        have hg1 : (d.at' (i : Int)).good = (gi : Int) + 1 := by rw [hgi]; unfold gIdx; omega
        have hg4 : gi < 4 := by rw [hgi]; unfold gIdx; omega
        rw [hg1] at cg
        rw [← hgi] at hst
        obtain ⟨ov, hov⟩ : ∃ v, v = gI (stoS d day (ks.take k) [0, 0, 0, 0]) gi := ⟨_, rfl⟩
        have hsl : (stoS d day (ks.take k) [0, 0, 0, 0]).length = 4 := by rw [stoS_len]; rfl
        have co : wr.cell? ⟨g, gi, none⟩ = some (.int .i64 ov) := by rw [HB.out.cell, iA_get (by rw [hsl]; exact hg4), hov]
        have hor := gI_small HM.out (by omega) gi
        have hbr := HOK.out.balU (i : Int) day d.ents.length
        rw [List.take_length] at hbr
        obtain ⟨bl, hbl⟩ : ∃ b, b = balU (i : Int) day d.ents := ⟨_, rfl⟩
        have hba := fun (W : World) (hW : LSt W B lb d m) => balance_any B lb d m (i : Int) day W hW HOK.out
        rw [← hbl] at hst hbr hba
        rw [← hov] at hst hor
        have c0 := hls.c0
        have cA := hls.ca
        rw [hva, haa] at cA
        have j1 : (0:Int) ≤ (k:Int) := by omega
        have j2 : (k:Int) < (ks.length:Int) := by omega
        have j3 : (0:Int) ≤ (i:Int) := by omega
        have j4 : (i:Int) < (d.acc.length:Int) := by have : i < d.acc.length := hil; omega
        have j5 : (0:Int) ≤ (gi:Int) := by omega
        have j6 : (gi:Int) < 4 := by omega
        have j7 : (gi:Int) + 1 - 1 = (gi:Int) := by omega
        have j8 : IntKind.i64.wrap (gi:Int) = (gi:Int) := i64_eq _ ⟨by omega, by omega⟩
        have hkk : (k:Int) ≤ 40 := by omega
        have HST := Lib.hid hst
        have HBA := Lib.hid hba
        have LS := Lib.hid hls
        have HSL := Lib.hid hsl
        have HOR := Lib.hid hor
        have HBR := Lib.hid hbr
        clear hst hba hls hsl hor hbr
        clear hcs hml hsr hsr2 hi hca hat hgi hg1 hov hbl hgd haa hva
        go_upto_region 9 with (fail)
        have hxd : Ext wr wr.drew := (Below.refl _ wr).drew
        refine wp_region_K (fun W => W.cell? ⟨lb, 0, none⟩ = some (.pointer (some ⟨m.ab, 0, none⟩)) ∧ W.cell? ⟨m.ab, 0, none⟩ = some (.slice (some ⟨ba, oa, none⟩) d.acc.length ca) ∧ W.cell? ⟨ba, oa + i * 2, none⟩ = some (.int .i64 ((gi : Int) + 1)) ∧ W.cell? ⟨g, gi, none⟩ = some (.int .i64 ov)) 21 (by kernel_rfl) ⟨hxd.cellSome c0, hxd.cellSome cA, hxd.cellSome cg, hxd.cellSome co⟩ (fun hHeld => ?_)
        have XC := Lib.hid hxd
        clear hxd
        generalize wr.drew = wy at *
        refine wpAnyK_takeL (i := 0) (v := ?_) rfl (by kernel_rfl) (by kernel_rfl) (by kernel_rfl) (by kernel_rfl) (fun _ _ _ h => h) (Or.inl ⟨by rfl, ?_⟩) hHeld ?_
        rotate_left
        · intro w hSw; (try dsimp only at hSw); go_simp; (try with_reducible rfl)
        try simp only [Act.put, List.setIfInBounds_toArray, List.set_cons_zero, List.set_cons_succ]
        refine wpAnyK_takeL (i := 1) (v := ?_) rfl (by kernel_rfl) (by kernel_rfl) (by kernel_rfl) (by kernel_rfl) (fun _ _ _ h => h) (Or.inl ⟨by rfl, ?_⟩) hHeld ?_
        rotate_left
        · intro w hSw; (try dsimp only at hSw); go_simp; (try with_reducible rfl)
        try simp only [Act.put, List.setIfInBounds_toArray, List.set_cons_zero, List.set_cons_succ]
        refine wpAnyK_takeL (i := 2) (v := ?_) rfl (by kernel_rfl) (by kernel_rfl) (by kernel_rfl) (by kernel_rfl) (fun _ _ _ h => h) (Or.inl ⟨by rfl, ?_⟩) hHeld ?_
        rotate_left
        · intro w hSw; (try dsimp only at hSw); go_simp; (try with_reducible rfl)
        try simp only [Act.put, List.setIfInBounds_toArray, List.set_cons_zero, List.set_cons_succ]
        refine wpAnyK_takeL (i := 3) (v := ?_) rfl (by kernel_rfl) (by kernel_rfl) (by kernel_rfl) (by kernel_rfl) (fun _ _ _ h => h) (Or.inl ⟨by rfl, ?_⟩) hHeld ?_
        rotate_left
        · intro w hSw; (try dsimp only at hSw); go_simp; (try with_reducible rfl)
        try simp only [Act.put, List.setIfInBounds_toArray, List.set_cons_zero, List.set_cons_succ]
        refine wpAnyK_takeL (i := 4) (v := ?_) rfl (by kernel_rfl) (by kernel_rfl) (by kernel_rfl) (by kernel_rfl) (fun _ _ _ h => h) (Or.inl ⟨by rfl, ?_⟩) hHeld ?_
        rotate_left
        · intro w hSw; (try dsimp only at hSw); go_simp; (try with_reducible rfl)
        try simp only [Act.put, List.setIfInBounds_toArray, List.set_cons_zero, List.set_cons_succ]
        refine wpAnyK_takeL (i := 5) (v := ?_) rfl (by kernel_rfl) (by kernel_rfl) (by kernel_rfl) (by kernel_rfl) (fun _ _ _ h => h) (Or.inl ⟨by rfl, ?_⟩) hHeld ?_
        rotate_left
        · intro w hSw; (try dsimp only at hSw); go_simp; (try with_reducible rfl)
        try simp only [Act.put, List.setIfInBounds_toArray, List.set_cons_zero, List.set_cons_succ]
        refine wpAnyK_takeL (i := 6) (v := ?_) rfl (by kernel_rfl) (by kernel_rfl) (by kernel_rfl) (by kernel_rfl) (fun _ _ _ h => h) (Or.inl ⟨by rfl, ?_⟩) hHeld ?_
        rotate_left
        · intro w hSw; (try dsimp only at hSw); go_simp; (try with_reducible rfl)
        try simp only [Act.put, List.setIfInBounds_toArray, List.set_cons_zero, List.set_cons_succ]
        refine wpAnyK_takeL (i := 7) (v := ?_) rfl (by kernel_rfl) (by kernel_rfl) (by kernel_rfl) (by kernel_rfl) (fun _ _ _ h => h) (Or.inl ⟨by rfl, ?_⟩) hHeld ?_
        rotate_left
        · intro w hSw; (try dsimp only at hSw); go_simp; (try with_reducible rfl)
        try simp only [Act.put, List.setIfInBounds_toArray, List.set_cons_zero, List.set_cons_succ]
        refine wpAnyK_takeL (i := 8) (v := ?_) rfl (by kernel_rfl) (by kernel_rfl) (by kernel_rfl) (by kernel_rfl) (fun _ _ _ h => h) (Or.inl ⟨by rfl, ?_⟩) hHeld ?_
        rotate_left
        · intro w hSw; (try dsimp only at hSw); go_simp; (try with_reducible rfl)
        try simp only [Act.put, List.setIfInBounds_toArray, List.set_cons_zero, List.set_cons_succ]
        refine wpAnyK_takeL (i := 9) (v := ?_) rfl (by kernel_rfl) (by kernel_rfl) (by kernel_rfl) (by kernel_rfl) (fun _ _ _ h => h) (Or.inl ⟨by rfl, ?_⟩) hHeld ?_
        rotate_left
        · intro w hSw; (try dsimp only at hSw); go_simp; (try with_reducible rfl)
        try simp only [Act.put, List.setIfInBounds_toArray, List.set_cons_zero, List.set_cons_succ]
        refine wpAnyK_takeL (i := 10) (v := ?_) rfl (by kernel_rfl) (by kernel_rfl) (by kernel_rfl) (by kernel_rfl) (fun _ _ _ h => h) (Or.inl ⟨by rfl, ?_⟩) hHeld ?_
        rotate_left
        · intro w hSw; (try dsimp only at hSw); go_simp; (try with_reducible rfl)
        try simp only [Act.put, List.setIfInBounds_toArray, List.set_cons_zero, List.set_cons_succ]
        refine wpAnyK_takeL (i := 11) (v := ?_) rfl (by kernel_rfl) (by kernel_rfl) (by kernel_rfl) (by kernel_rfl) (fun _ _ _ h => h) (Or.inl ⟨by rfl, ?_⟩) hHeld ?_
        rotate_left
        · intro w hSw; (try dsimp only at hSw); go_simp; (try with_reducible rfl)
        try simp only [Act.put, List.setIfInBounds_toArray, List.set_cons_zero, List.set_cons_succ]
        refine wpAnyK_takeL (i := 12) (v := ?_) rfl (by kernel_rfl) (by kernel_rfl) (by kernel_rfl) (by kernel_rfl) (fun _ _ _ h => h) (Or.inl ⟨by rfl, ?_⟩) hHeld ?_
        rotate_left
        · intro w hSw; (try dsimp only at hSw); go_simp; (try with_reducible rfl)
        try simp only [Act.put, List.setIfInBounds_toArray, List.set_cons_zero, List.set_cons_succ]
        refine wpAnyK_takeL (i := 13) (v := ?_) rfl (by kernel_rfl) (by kernel_rfl) (by kernel_rfl) (by kernel_rfl) (fun _ _ _ h => h) (Or.inl ⟨by rfl, ?_⟩) hHeld ?_
        rotate_left
        · intro w hSw; (try dsimp only at hSw); go_simp; (try with_reducible rfl)
        try simp only [Act.put, List.setIfInBounds_toArray, List.set_cons_zero, List.set_cons_succ]
        refine wpAnyK_takeL (i := 14) (v := ?_) rfl (by kernel_rfl) (by kernel_rfl) (by kernel_rfl) (by kernel_rfl) (fun _ _ _ h => h) (Or.inl ⟨by rfl, ?_⟩) hHeld ?_
        rotate_left
        · intro w hSw; (try dsimp only at hSw); go_simp; (try with_reducible rfl)
        try simp only [Act.put, List.setIfInBounds_toArray, List.set_cons_zero, List.set_cons_succ]
        refine wpAnyK_takeL (i := 15) (v := ?_) rfl (by kernel_rfl) (by kernel_rfl) (by kernel_rfl) (by kernel_rfl) (fun _ _ _ h => h) (Or.inl ⟨by rfl, ?_⟩) hHeld ?_
        rotate_left
        · intro w hSw; (try dsimp only at hSw); go_simp; (try with_reducible rfl)
        try simp only [Act.put, List.setIfInBounds_toArray, List.set_cons_zero, List.set_cons_succ]
        refine wpAnyK_takeL (i := 16) (v := ?_) rfl (by kernel_rfl) (by kernel_rfl) (by kernel_rfl) (by kernel_rfl) (fun _ _ _ h => h) (Or.inl ⟨by rfl, ?_⟩) hHeld ?_
        rotate_left
        · intro w hSw; (try dsimp only at hSw); go_simp; (try with_reducible rfl)
        try simp only [Act.put, List.setIfInBounds_toArray, List.set_cons_zero, List.set_cons_succ]
        refine wpAnyK_takeL (i := 17) (v := ?_) rfl (by kernel_rfl) (by kernel_rfl) (by kernel_rfl) (by kernel_rfl) (fun _ _ _ h => h) (Or.inl ⟨by rfl, ?_⟩) hHeld ?_
        rotate_left
        · intro w hSw; (try dsimp only at hSw); go_simp; (try with_reducible rfl)
        try simp only [Act.put, List.setIfInBounds_toArray, List.set_cons_zero, List.set_cons_succ]
        refine wpAnyK_ready (rs := [18]) (by kernel_rfl) (by simp) ?_
        refine AllReadyK.consL (i := 18) rfl (fun K hK => ?_) ?_
        · refine step_call (vs := #[.pointer (some ⟨lb, 0, none⟩), .int .i64 (i : Int), .int .i64 day]) rfl rfl rfl Try.func68 (by kernel_rfl) (by kernel_rfl) (HBA.out _ (LS.out.ext XC.out)) ?_
          rintro e wn ⟨rfl, hx⟩
          refine ⟨_, rfl, ?_⟩
          replace XC := Lib.hid (XC.out.ext hx)
          clear hx
          refine hK.out _ _ (fun _ => ⟨XC.out.cellSome c0, XC.out.cellSome cA, XC.out.cellSome cg, XC.out.cellSome co⟩) (fun hHeld2 => ?_)
          clear hK K
          try clear hHeld
          have hHeld := hHeld2 (by decide)
          clear hHeld2
          try simp only [Act.put, List.setIfInBounds_toArray, List.set_cons_zero, List.set_cons_succ]
          refine wpAnyK_takeL (i := 19) (v := ?_) rfl (by kernel_rfl) (by kernel_rfl) (by kernel_rfl) (by kernel_rfl) (fun _ _ _ h => h) (Or.inl ⟨by rfl, ?_⟩) hHeld ?_
          rotate_left
          · intro w hSw; (try dsimp only at hSw); go_simp; (try with_reducible rfl)
          try simp only [Act.put, List.setIfInBounds_toArray, List.set_cons_zero, List.set_cons_succ]
          refine wpAnyK_takeL (i := 20) (v := ?_) rfl (by kernel_rfl) (by kernel_rfl) (by kernel_rfl) (by kernel_rfl) (fun _ _ _ h => h) (Or.inl ⟨by rfl, ?_⟩) hHeld ?_
          rotate_left
          · intro w hSw; (try dsimp only at hSw); go_simp; (try with_reducible rfl)
          try simp only [Act.put, List.setIfInBounds_toArray, List.set_cons_zero, List.set_cons_succ]
          clear hHeld
          refine wpAnyK_ready (rs := [21]) (by kernel_rfl) (by simp) ?_
          refine AllReadyK.consL (i := 21) rfl (fun K hK => ?_) ?_
          · refine step_setK (i := gi) (v := .int .i64 (IntKind.i64.wrap (ov + bl))) rfl rfl (HB.out.ext XC.out) rfl rfl (by rw [iA_size, HSL.out]; exact hg4) (by kernel_rfl) rfl (by simp [Value.oneCell']) ?_
            intro wm hw hb ho
            clear hw
            have h1 := HOR.out
            have h2 := HBR.out
            have ho2 := (HO.out.tr (Only.of_ext XC.out)).tr ho
            rw [i64_eq (ov + bl) (by omega), iA_set] at hb
            have hsm : Small (((k + 1 : Nat) : Int) * 5000000000000000) (stoS d day (ks.take (k + 1)) [0, 0, 0, 0]) := by
              rw [HST.out]
              exact (HM.out.mono (by push_cast; omega)).set (by push_cast; constructor <;> omega) gi
            clear XC h1 h2
            have HO2 := Lib.hid ho2
            have HSM := Lib.hid hsm
            clear ho2 hsm
            clear ho
            refine hK.out _ _ (fun h => absurd h (by decide)) (fun hHeld2 => ?_)
            clear hK K hHeld2
            try clear hHeld
            try simp only [Act.put, List.setIfInBounds_toArray, List.set_cons_zero, List.set_cons_succ]
            refine wpAnyK_done (by kernel_rfl) ?_ _
            go_wp2
            go_roundw
            case rel => exact ⟨k + 1, by omega, by go_num, Lib.hid (by rw [HST.out]; exact hb), HSM, HO2⟩
            case measure => simp [intOf]; omega
          · exact AllReadyK.nil
        · exact AllReadyK.nil
      · obtain rfl : k = ks.length := by omega
        have hb := HB.out
        rw [List.take_length] at hb
        have HXR := Lib.hid hxr
        have HBI := Lib.hid (hb.ints (n := 4) (c := 4) (by rw [stoS_len]; rfl) (by omega))
        clear hlt hxr hb
        go_wp2
        go_ret2
        exact HP.out _ _ ⟨_, by rw [HE.out]; rfl, HXR.out, by rw [HV.out]; exact HBI.out⟩
  · have HE := Lib.hid (show stkErr day = 6 by unfold stkErr; rw [if_neg hd])
    have HV := Lib.hid (show stoV d day = [] by unfold stoV; rw [if_neg (by rw [HE.out]; decide)])
    have HD := Lib.hid hd
    have HP := Lib.hid hp
    clear hp
    clear h ok hgood hd hn
    go_enter Try.func32, Try.ntmps32
    go_wp2_with (first
      | (go_at_call 66; refine (none_any lb m.ab _ c0).mono ?_; rintro e w' ⟨rfl, rfl⟩)
      | (go_at_call 52; refine (in_false _ _ _ _ HD.out).mono ?_; rintro e w' ⟨rfl, rfl⟩))
    go_ret2
    exact HP.out _ _ ⟨_, by rw [HE.out]; rfl, Below.refl _ _, by rw [HV.out]; exact Sl.nil _⟩
end Go.Proofs.Ytekplfbfkfiabaa
