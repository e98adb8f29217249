import Derived.Test.YtojobdffnnibaaaActsD
import Derived.Test.YtojobdffnnibaaaActsA
import Derived.Test.YtojobdffnnibaaaCodeKit
import Derived.Test.YtojobdffnnibaaaAwake7
/- PressActs: the reference's Do. -/
namespace Go.Proofs.Ytojobdffnnibaaa
open Go.RowKit
set_option linter.unusedVariables false
set_option linter.unusedSimpArgs false

set_option maxRecDepth 100000 in
set_option maxHeartbeats 4000000 in
theorem rDo_any (p : PressD) (s : StD) (k x : Int) (vj vu : Value) (w : World) (hj : Truths w vj p.jam) (hu : UnIn w vu s.units) (hl : s.units.length ≤ 1000000) :
    Calls Try.prog 36 #[pV vj p, sV vu s, .agg #[.int .i64 k, .int .i64 x]] w fun e w' => ∃ v, e = .returned (.tuple #[sV v (doS p s k x), .int .i64 (doErr p s k x)]) ∧ UnIn w' v (doS p s k x).units ∧ Ext w w' ∧ ∀ b, v.ownBlock = some b → w.heap.size ≤ b := by
  have hst := fun w1 (kx : Ext w w1) => rStarted_any p s vj vu w1 (Sl.ext hj kx) (hu.ext kx) hl
  have hac := fun (g : Good p s) W (kx : Ext w W) => rAct_any g k x vj vu W (Sl.ext hj kx) (hu.ext kx)
  obtain ⟨a, c, rfl, _⟩ := hu.form
  clear hu
  obtain ⟨_, aj, cj, hvj, _⟩ := hj
  rw [List.length_map] at hvj
  subst hvj
  obtain ⟨n, hn⟩ : ∃ n, s.units.length = n := ⟨_, rfl⟩
  unfold pV sV at hst hac
  rw [hn] at hst hac hl
  unfold pV sV
  rw [hn]
  obtain ⟨e1, he1⟩ : ∃ e, stErr p s = e := ⟨_, rfl⟩
  rw [he1] at hst
  have HST := Lib.hid hst
  have HAC := Lib.hid hac
  have HN := Lib.hid hn
  have HE1 := Lib.hid he1
  have HL := Lib.hid hl
  clear hst hac hn he1 hl
  go_enter Try.func36, Try.ntmps36
  go_upto_region 2 with (first
    | (with_reducible refine wpList_boxA (t := 24) (cs := #[.slice aj p.jam.length cj, .int .i64 p.warm, .int .i64 p.tail, .int .i64 p.dirt]) rfl rfl rfl ?_
       rintro xb w1 hx1 hx2 hx3
       have PB := Lib.hid hx1
       have X1 := Lib.hid hx2
       clear hx1 hx2
       clear hx3)
    | (with_reducible refine wpList_boxA (t := 27) (cs := #[.int .i64 s.drive, .bool s.folder, .slice a n c, .int .i64 s.fresh]) rfl rfl rfl ?_
       rintro sb w2 hy1 hy2 hy3
       have pb2 := PB.out.ext hy2
       have x2 := X1.out.tr hy2
       clear PB X1
       have SB := Lib.hid hy1
       have PB := Lib.hid pb2
       have X1 := Lib.hid x2
       clear hy1 pb2 x2
       clear hy3 hy2)
    | (with_reducible refine wpList_boxA (t := 88) (cs := #[.int .i64 k, .int .i64 x]) rfl rfl rfl ?_
       rintro ab w3 hy1 hy2 hy3
       have pb2 := PB.out.ext hy2
       have sb2 := SB.out.ext hy2
       have x2 := X1.out.tr hy2
       clear PB X1 SB
       have SB := Lib.hid sb2
       have PB := Lib.hid pb2
       have X1 := Lib.hid x2
       have AB := Lib.hid hy1
       clear sb2 pb2 x2 hy1
       clear hy3 hy2)
    | (with_reducible refine wpList_allocA (t := 27) rfl rfl Try.zeroValue27 ?_
       rintro rb w4 hy1 hy2 hy3
       have pb2 := PB.out.ext hy2
       have sb2 := SB.out.ext hy2
       have ab2 := AB.out.ext hy2
       have lr := Nat.le_trans X1.out.size hy3
       have x2 := X1.out.tr hy2
       have c1 := pb2.cell
       have c2 := sb2.cell
       clear PB X1 SB AB
       have SB := Lib.hid sb2
       have PB := Lib.hid pb2
       have X1 := Lib.hid x2
       have AB := Lib.hid ab2
       have RB := Lib.hid hy1
       have LR := Lib.hid lr
       clear sb2 pb2 x2 ab2 hy1 lr
       clear hy3 hy2)
    | (go_at_call 46
       refine (HST.out _ X1.out).mono ?_
       rintro e w5 ⟨rfl, hx⟩
       have pb2 := PB.out.ext hx
       have sb2 := SB.out.ext hx
       have ab2 := AB.out.ext hx
       have rb2 := RB.out.ext hx
       have x2 := X1.out.tr hx
       have lw5 := x2.size
       clear c1 c2 PB X1 SB AB RB hx HST
       have LW5 := Lib.hid lw5
       clear lw5
       have c1 := pb2.cell
       have c2 := sb2.cell
       have c3 := ab2.cell
       have SB := Lib.hid sb2
       have PB := Lib.hid pb2
       have X1 := Lib.hid x2
       have AB := Lib.hid ab2
       have RB := Lib.hid rb2
       clear sb2 pb2 x2 ab2 rb2))
  by_cases h1 : e1 = 0
  · subst h1
    have g := (good_iff p s).1 HE1.out
    have hac2 := HAC.out g
    have hde : doErr p s k x = actErr p s k x := by unfold doErr; rw [if_neg (by rw [HE1.out]; simp)]
    obtain ⟨e2, he2⟩ : ∃ e, actErr p s k x = e := ⟨_, rfl⟩
    obtain ⟨s2, hs2⟩ : ∃ t, actD p s k x = t := ⟨_, rfl⟩
    rw [he2, hs2] at hac2
    rw [he2] at hde
    have hl2 : s2.units.length = n := by
      have := actD_units p s k x
      rw [hs2, HN.out] at this
      exact this
    have HA2 := Lib.hid hac2
    have HDE := Lib.hid hde
    have HS2 := Lib.hid hs2
    have HE2 := Lib.hid he2
    have HL2 := Lib.hid hl2
    clear hac2 hde hs2 he2 hl2
    clear HAC g
    go_upto_region 5 with (first
      | (go_at_call 60
         refine (HA2.out _ X1.out).mono ?_
         rintro e w6 ⟨v, rfl, hv, hx, hown⟩
         obtain ⟨a6, c6, hv6, _⟩ := hv.form
         rw [HL2.out] at hv6 hown
         subst hv6
         have rbl := RB.out.lt
         have rb2 := RB.out.ext hx
         have x2 := X1.out.tr hx
         clear c1 c2 c3 PB SB AB RB X1 hx HA2
         have RB := Lib.hid rb2
         have X1 := Lib.hid x2
         have UV := Lib.hid hv
         have OWN := Lib.hid hown
         have RBL := Lib.hid rbl
         clear rb2 x2 hv hown rbl)
      | (with_reducible refine wpList_allocA (t := 27) rfl rfl Try.zeroValue27 ?_
         rintro nb w7 hy1 hy2 hy3
         have ln : w6.heap.size ≤ nb := hy3
         clear hy3
         have NB := Lib.hid hy1
         have Z := Lib.hid hy2
         have LN := Lib.hid ln
         clear hy1 hy2 ln)
      | (with_reducible refine wpList_storeK (ty := 27) (cells := #[.int .i64 s2.drive, .bool s2.folder, .slice a6 n c6, .int .i64 s2.fresh]) rfl rfl NB.out ?_ ?_ ?_ ?_ ?_ ?_
         · rfl
         · rfl
         · kernel_rfl
         · rfl
         · simp [Value.oneCell']
         rintro w8 hb ho
         have hx := Z.out.then_only ho (fun k (e : k = nb) => by rw [e]; exact LN.out)
         have rb2 := RB.out.ext hx
         have x2 := X1.out.tr hx
         have own2 : e2 = 0 → w8.ownsRow w5.heap.size 98 5 (.slice a6 n c6) n (uL s2.units) := fun h => owns_ext (OWN.out h) hx
         have c5 := hb.cell
         clear RB X1 hx ho Z LN NB UV OWN
         have X1 := Lib.hid x2
         have RB := Lib.hid rb2
         have OWN := Lib.hid own2
         clear x2 rb2 own2))
    by_cases h2 : e2 = 0
    · subst h2
      have hds : doS p s k x = s2 := by
        unfold doS; rw [if_pos HDE.out]
        rw [← HS2.out]; unfold actD; rw [if_pos HE2.out]
      have uv := OWN.out rfl
      have uvb : ∀ b, (Value.slice a6 n c6).ownBlock = some b → ¬ b = rb := fun b hb e => by have := (uv.lt b hb).1; have := RBL.out; omega
      have hn3 : n ≤ 1000000 := HL.out
      have HDS := Lib.hid hds
      have UV := Lib.hid uv
      have UVB := Lib.hid uvb
      have HN3 := Lib.hid hn3
      clear hds uv uvb hn3
      go_wp2_with (
        with_reducible refine wpList_storeK (ty := 27) (cells := #[.int .i64 s2.drive, .bool s2.folder, .slice a6 n c6, .int .i64 s2.fresh]) rfl rfl RB.out ?_ ?_ ?_ ?_ ?_ ?_
        · rfl
        · rfl
        · kernel_rfl
        · rfl
        · simp [Value.oneCell']
        rintro w9 hb7 ho7
        have k0 := hb7.cell
        have x2 := X1.out.then_only ho7 (fun k (e : k = rb) => by rw [e]; exact LR.out)
        have uv2 := owns_only UV.out ho7 UVB.out
        clear X1 RB ho7 hb7 UV
        have X1 := Lib.hid x2
        have UV := Lib.hid uv2
        clear x2 uv2)
      refine bodyPost_ret (v := .tuple #[.agg #[.int .i64 s2.drive, .bool s2.folder, .slice a6 n c6, .int .i64 s2.fresh], .int .i64 0]) (by simp [results, Try.results36, go_sem, k0]) rfl ?_
      exact ⟨.slice a6 n c6, by rw [HDE.out, HDS.out] <;> rfl, by rw [HDS.out]; exact UnIn.of_owns (by rw [HL2.out]; exact UV.out) (by rw [HL2.out]; have := HN3.out; omega), X1.out, fun b hb => Nat.le_trans LW5.out (UV.out.lt b hb).1⟩
    · have f1 : (e2 != 0) = true := by simp [h2]
      have hds : doS p s k x = zD := by unfold doS; rw [if_neg (by rw [HDE.out]; exact h2)]
      have HDS := Lib.hid hds
      clear hds
      go_wp2_with (first
        | (with_reducible refine wpList_storeK (ty := 27) (cells := #[.int .i64 0, .bool false, .slice none 0 0, .int .i64 0]) rfl rfl RB.out ?_ ?_ ?_ ?_ ?_ ?_
           · rfl
           · rfl
           · kernel_rfl
           · rfl
           · simp [Value.oneCell']
           rintro w7 hb7 ho7
           have k0 := hb7.cell
           have x2 := X1.out.then_only ho7 (fun k (e : k = rb) => by rw [e]; exact LR.out)
           clear X1 RB ho7 hb7
           have X1 := Lib.hid x2
           clear x2)
      )
      refine bodyPost_ret (v := .tuple #[sZ, .int .i64 e2]) (by simp [results, Try.results36, go_sem, k0, sZ]) rfl ?_
      exact ⟨.slice none 0 0, by rw [HDE.out, HDS.out] <;> rfl, by rw [HDS.out]; exact UnIn.nil _, X1.out, fun b hb => by cases hb⟩
  · have f1 : (e1 != 0) = true := by simp [h1]
    have hde : doErr p s k x = e1 := by unfold doErr; rw [HE1.out, if_pos h1]
    have hds : doS p s k x = zD := by unfold doS; rw [if_neg (by rw [hde]; exact h1)]
    have HDE := Lib.hid hde
    have HDS := Lib.hid hds
    clear hde hds
    go_wp2_with (first
      | (with_reducible refine wpList_storeK (ty := 27) (cells := #[.int .i64 0, .bool false, .slice none 0 0, .int .i64 0]) rfl rfl RB.out ?_ ?_ ?_ ?_ ?_ ?_
         · rfl
         · rfl
         · kernel_rfl
         · rfl
         · simp [Value.oneCell']
         rintro w7 hb7 ho7
         have k0 := hb7.cell
         have x2 := X1.out.then_only ho7 (fun k (e : k = rb) => by rw [e]; exact LR.out)
         clear X1 RB ho7 hb7
         have X1 := Lib.hid x2
         clear x2)
    )
    refine bodyPost_ret (v := .tuple #[sZ, .int .i64 e1]) (by simp [results, Try.results36, go_sem, k0, sZ]) rfl ?_
    exact ⟨.slice none 0 0, by rw [HDE.out, HDS.out] <;> rfl, by rw [HDS.out]; exact UnIn.nil _, X1.out, fun b hb => by cases hb⟩
end Go.Proofs.Ytojobdffnnibaaa

/- PressActs: the reference's Program. -/
namespace Go.Proofs.Ytojobdffnnibaaa
open Go.RowKit
set_option linter.unusedVariables false
set_option linter.unusedSimpArgs false

/-- What Program answers: the state, how many were carried out, the error. -/
def pgS (p : PressD) (s : StD) (l : List (Int × Int)) : StD := if pgErr p s l ≠ 0 then zD else (progR p s 0 l).1
def pgN (p : PressD) (s : StD) (l : List (Int × Int)) : Int := if pgErr p s l ≠ 0 then 0 else (progR p s 0 l).2.1
def pgE (p : PressD) (s : StD) (l : List (Int × Int)) : Int := if pgErr p s l ≠ 0 then pgErr p s l else (progR p s 0 l).2.2
/-- The block of a row that came in lies below. -/
theorem UnIn.lt {w : World} {v : Value} {us : List UnitD} (h : UnIn w v us) (h0 : 0 < us.length) : ∀ b, v.ownBlock = some b → b < w.heap.size := fun b hb => by
  obtain ⟨_, a, c, hv, _, h2⟩ := h
  obtain ⟨b', o, ha, hc⟩ := h2 h0
  subst hv
  subst ha
  have e : b' = b := by simpa [Value.ownBlock] using hb
  subst e
  obtain ⟨x, hx⟩ := uC_some us[0] 0 (by omega)
  have := hc 0 h0 0 (by omega)
  rw [hx] at this
  exact World.block_lt_of_cell? w _ this

set_option maxRecDepth 100000 in
set_option maxHeartbeats 4000000 in
theorem rProgram_any (p : PressD) (s : StD) (l : List (Int × Int)) (vj vu vl : Value) (w : World) (hj : Truths w vj p.jam) (hu : UnIn w vu s.units) (hl : s.units.length ≤ 1000000) (hv : AcIn w vl l) :
    Calls Try.prog 34 #[pV vj p, sV vu s, vl] w fun e w' => ∃ v, e = .returned (.tuple #[sV v (pgS p s l), .int .i64 (pgN p s l), .int .i64 (pgE p s l)]) ∧ UnIn w' v (pgS p s l).units ∧ Ext w w' ∧ ∀ b, v.ownBlock = some b → vu.ownBlock = some b ∨ w.heap.size ≤ b := by
  have hst := fun w1 (kx : Ext w w1) => rStarted_any p s vj vu w1 (Sl.ext hj kx) (hu.ext kx) hl
  have hac := fun (t : StD) (g : Good p t) (k x : Int) v W (kx : Ext w W) (hv : UnIn W v t.units) => rAct_any g k x vj v W (Sl.ext hj kx) hv
  have hlt0 := fun (h0 : 0 < s.units.length) => hu.lt h0
  have hui := hu
  obtain ⟨a, c, rfl, _⟩ := hu.form
  clear hu
  obtain ⟨_, aj, cj, hvj, _⟩ := hj
  rw [List.length_map] at hvj
  subst hvj
  have hlm := hv.1
  obtain ⟨al, cl, rfl, HV⟩ := hv.form
  clear hv
  obtain ⟨n, hn⟩ : ∃ n, s.units.length = n := ⟨_, rfl⟩
  unfold pV sV at hst hac
  rw [hn] at hst hl hlt0 hui
  unfold pV sV
  rw [hn]
  obtain ⟨e1, he1⟩ : ∃ e, stErr p s = e := ⟨_, rfl⟩
  rw [he1] at hst
  have HST := Lib.hid hst
  have HAC := Lib.hid hac
  have HN := Lib.hid hn
  have HE1 := Lib.hid he1
  have HL := Lib.hid hl
  have HLT := Lib.hid hlt0
  have HUI := Lib.hid hui
  clear hst hac hn he1 hl hlt0 hui
  go_enter Try.func34, Try.ntmps34
  go_upto_region 2 with (first
    | (with_reducible refine wpList_boxA (t := 24) (cs := #[.slice aj p.jam.length cj, .int .i64 p.warm, .int .i64 p.tail, .int .i64 p.dirt]) rfl rfl rfl ?_
       rintro xb w1 hx1 hx2 hx3
       have PB := Lib.hid hx1
       have X1 := Lib.hid hx2
       clear hx1 hx2
       clear hx3)
    | (with_reducible refine wpList_boxA (t := 27) (cs := #[.int .i64 s.drive, .bool s.folder, .slice a n c, .int .i64 s.fresh]) rfl rfl rfl ?_
       rintro sb w2 hy1 hy2 hy3
       have pb2 := PB.out.ext hy2
       have ls := Nat.le_trans X1.out.size hy3
       have x2 := X1.out.tr hy2
       clear PB X1
       have SB := Lib.hid hy1
       have PB := Lib.hid pb2
       have X1 := Lib.hid x2
       have LS := Lib.hid ls
       clear hy1 pb2 x2 ls
       clear hy3 hy2)
    | (with_reducible refine wpList_allocA (t := 27) rfl rfl Try.zeroValue27 ?_
       rintro rb w4 hy1 hy2 hy3
       have pb2 := PB.out.ext hy2
       have sb2 := SB.out.ext hy2
       have hrs : sb ≠ rb := fun e => by have := SB.out.lt; omega
       have lr := Nat.le_trans X1.out.size hy3
       have x2 := X1.out.tr hy2
       have c1 := pb2.cell
       have c2 := sb2.cell
       clear PB X1 SB
       have SB := Lib.hid sb2
       have PB := Lib.hid pb2
       have X1 := Lib.hid x2
       have RB := Lib.hid hy1
       have LR := Lib.hid lr
       have HRS := Lib.hid hrs
       clear sb2 pb2 x2 hy1 lr hrs
       clear hy3 hy2)
    | (go_at_call 46
       refine (HST.out _ X1.out).mono ?_
       rintro e w5 ⟨rfl, hx⟩
       have pb2 := PB.out.ext hx
       have sb2 := SB.out.ext hx
       have rb2 := RB.out.ext hx
       have x2 := X1.out.tr hx
       clear c1 c2 PB X1 SB RB hx HST
       have c1 := pb2.cell
       have c2 := sb2.cell
       have SB := Lib.hid sb2
       have PB := Lib.hid pb2
       have X1 := Lib.hid x2
       have RB := Lib.hid rb2
       clear sb2 pb2 x2 rb2))
  by_cases h1 : e1 = 0
  · subst h1
    have g := (good_iff p s).1 HE1.out
    have hpg : pgErr p s l = if 200 < l.length then 2 else 0 := by unfold pgErr; rw [if_neg (by rw [HE1.out]; simp)]
    by_cases h2 : 200 < l.length
    · have hp2 : pgErr p s l = 2 := by rw [hpg, if_pos h2]
      have hs1 : pgS p s l = zD := by unfold pgS; rw [if_pos (by rw [hp2] <;> decide)]
      have hs2 : pgN p s l = 0 := by unfold pgN; rw [if_pos (by rw [hp2] <;> decide)]
      have hs3 : pgE p s l = 2 := by unfold pgE; rw [if_pos (by rw [hp2] <;> decide)]; exact hp2
      have i1 : (200:Int) < (l.length:Int) := by omega
      clear hpg hp2 g h2
      have HS1 := Lib.hid hs1
      have HS2 := Lib.hid hs2
      have HS3 := Lib.hid hs3
      clear hs1 hs2 hs3
      go_wp2_with (first
        | (with_reducible refine wpList_storeK (ty := 27) (cells := #[.int .i64 0, .bool false, .slice none 0 0, .int .i64 0]) rfl rfl RB.out ?_ ?_ ?_ ?_ ?_ ?_
           · rfl
           · rfl
           · kernel_rfl
           · rfl
           · simp [Value.oneCell']
           rintro w7 hb7 ho7
           have k0 := hb7.cell
           have x2 := X1.out.then_only ho7 (fun k (e : k = rb) => by rw [e]; exact LR.out)
           clear X1 RB ho7 hb7
           have X1 := Lib.hid x2
           clear x2)
      )
      refine bodyPost_ret (v := .tuple #[sZ, .int .i64 0, .int .i64 2]) (by simp [results, Try.results34, go_sem, k0, sZ]) rfl ?_
      exact ⟨.slice none 0 0, by rw [HS1.out, HS2.out, HS3.out] <;> rfl, by rw [HS1.out]; exact UnIn.nil _, X1.out, fun b hb => by cases hb⟩
    · have hp2 : pgErr p s l = 0 := by rw [hpg, if_neg h2]
      have hs1 : pgS p s l = (progR p s 0 l).1 := by unfold pgS; rw [if_neg (by rw [hp2] <;> decide)]
      have hs2 : pgN p s l = (progR p s 0 l).2.1 := by unfold pgN; rw [if_neg (by rw [hp2] <;> decide)]
      have hs3 : pgE p s l = (progR p s 0 l).2.2 := by unfold pgE; rw [if_neg (by rw [hp2] <;> decide)]
      have i1 : decide ((200:Int) < (l.length:Int)) = false := decide_eq_false (by omega)
      have hn1 : 1 ≤ n ∧ n ≤ 3 := by have := g.small; rw [HN.out] at this; exact ⟨this.2, this.1⟩
      have hbl : ∀ b, (Value.slice a n c).ownBlock = some b → b ≠ sb ∧ b ≠ rb := fun b hb => by
        have h1 := HLT.out (by omega) b hb
        have h2 := LS.out
        have h3 := LR.out
        omega
      have hu5 := HUI.out.ext X1.out
      clear hpg hp2 h2
      have HS1 := Lib.hid hs1
      have HS2 := Lib.hid hs2
      have HS3 := Lib.hid hs3
      have GG := Lib.hid g
      have HN1 := Lib.hid hn1
      have HBL := Lib.hid hbl
      have HU5 := Lib.hid hu5
      clear hs1 hs2 hs3 g hn1 hbl hu5
      go_upto_region 7 with (fail)
      clear i1 c1 c2
      go_loopw [10] (fun t10 wr => ∃ (k : Nat) (t : StD) (ta : Option Addr) (tc : Nat), k ≤ l.length ∧ t10 = .int .i64 k ∧ t.units.length = n ∧ Hid (Good p t) ∧ Hid (progR p t k (l.drop k) = progR p s 0 l) ∧ Hid (Blk wr sb #[.int .i64 t.drive, .bool t.folder, .slice ta n tc, .int .i64 t.fresh] 27) ∧ Hid (UnIn wr (.slice ta n tc) t.units) ∧ Hid (∀ b, (Value.slice ta n tc).ownBlock = some b → b ≠ sb ∧ b ≠ rb) ∧ Hid (Blk wr xb #[.slice aj p.jam.length cj, .int .i64 p.warm, .int .i64 p.tail, .int .i64 p.dirt] 24) ∧ Hid (Blk wr rb #[.int .i64 0, .bool false, .slice none 0 0, .int .i64 0] 27) ∧ Hid (Ext w wr) ∧ Hid (∀ b, (Value.slice ta n tc).ownBlock = some b → (Value.slice a n c).ownBlock = some b ∨ w.heap.size ≤ b)) (fun t10 _ => l.length - (intOf t10).toNat)
      case atStart => exact ⟨0, s, a, c, Nat.zero_le _, rfl, HN.out, GG, rfl, SB, HU5, HBL, PB, RB, X1, fun b hb => .inl hb⟩
      case round =>
        obtain ⟨k, t, ta, tc, hk, rfl, htu, GT, HPR, SBT, UT, BLT, PBT, RBT, XT, BLO⟩ := hrel
        by_cases hlt : k < l.length
        · obtain ⟨b1, o1, rfl, hc1⟩ := HV.out (by omega)
          obtain ⟨d1, d2⟩ := hc1 k hlt
          have hpr := HPR.out
          rw [List.drop_eq_getElem_cons hlt] at hpr
          obtain ⟨⟨ak, ax⟩, hax⟩ : ∃ x, l[k] = x := ⟨_, rfl⟩
          rw [hax] at d1 d2 hpr
          dsimp only at d1 d2
          have hact := fun W (kx : Ext wr W) => HAC.out t GT.out ak ax (.slice ta n tc) W (XT.out.tr kx) (UT.out.ext kx)
          have hau := actD_units p t ak ax
          rw [htu] at hau
          obtain ⟨er, her⟩ : ∃ x, actErr p t ak ax = x := ⟨_, rfl⟩
          obtain ⟨u, hud⟩ : ∃ x, actD p t ak ax = x := ⟨_, rfl⟩
          rw [her, hud] at hact
          rw [hud] at hau
          have i1 : (0:Int) ≤ (k:Int) := by omega
          have i2 : (k:Int) < (l.length:Int) := by omega
          have hS : ∀ W, Ext wr W → ((∀ j, W.cell? ⟨xb, j, none⟩ = (#[.slice aj p.jam.length cj, .int .i64 p.warm, .int .i64 p.tail, .int .i64 p.dirt] : Array Value)[j]?) ∧ (∀ j, W.cell? ⟨sb, j, none⟩ = (#[.int .i64 t.drive, .bool t.folder, .slice ta n tc, .int .i64 t.fresh] : Array Value)[j]?) ∧ (W.cell? ⟨b1, o1 + k * 2, none⟩ = some (.int .i64 ak) ∧ W.cell? ⟨b1, o1 + k * 2 + 1, none⟩ = some (.int .i64 ax))) := fun W hx =>
            ⟨(PBT.out.ext hx).cell, (SBT.out.ext hx).cell, (XT.out.tr hx).cellSome d1, (XT.out.tr hx).cellSome d2⟩
          clear hc1 d1 d2 hax
          have HPN := Lib.hid hpr
          have HACT := Lib.hid hact
          have HER := Lib.hid her
          have HAU := Lib.hid hau
          have HUD := Lib.hid hud
          have HS := Lib.hid hS
          clear hpr hact her hau hud hS
          go_upto_region 9 with (fail)
          go_cut [11, 12] (fun v11 v12 W => ∃ nb a6 c6, v11 = .pointer (some ⟨nb, 0, none⟩) ∧ v12 = .int .i64 er ∧ Hid (Blk W nb #[.int .i64 u.drive, .bool u.folder, .slice a6 n c6, .int .i64 u.fresh] 27) ∧ Hid (er = 0 → W.ownsRow wr.heap.size 98 5 (.slice a6 n c6) n (uL u.units)) ∧ Hid (Ext wr W))
          case first =>
            as_aux_lemma =>
              have xd : Ext wr wr.drew := (Below.refl _ wr).drew
              refine wp_region_K (fun wx => (∀ j, wx.cell? ⟨xb, j, none⟩ = (#[.slice aj p.jam.length cj, .int .i64 p.warm, .int .i64 p.tail, .int .i64 p.dirt] : Array Value)[j]?) ∧ (∀ j, wx.cell? ⟨sb, j, none⟩ = (#[.int .i64 t.drive, .bool t.folder, .slice ta n tc, .int .i64 t.fresh] : Array Value)[j]?) ∧ (wx.cell? ⟨b1, o1 + k * 2, none⟩ = some (.int .i64 ak) ∧ wx.cell? ⟨b1, o1 + k * 2 + 1, none⟩ = some (.int .i64 ax))) 11 (by kernel_rfl) (HS.out _ xd) (fun hHeld => ?_)
              generalize wr.drew = wA at *
              have XC := Lib.hid xd
              clear xd
              refine wpAnyK_takeL (i := 2) (v := ?_) rfl (by kernel_rfl) (by kernel_rfl) (by kernel_rfl) (by kernel_rfl) (fun _ _ _ h => h) (Or.inl ⟨by rfl, ?_⟩) hHeld ?_
              rotate_left
              · intro w hSw; (try dsimp only at hSw); go_simp; (try with_reducible rfl)
              try simp only [Act.put, List.setIfInBounds_toArray, List.set_cons_zero, List.set_cons_succ]
              refine wpAnyK_takeL (i := 3) (v := ?_) rfl (by kernel_rfl) (by kernel_rfl) (by kernel_rfl) (by kernel_rfl) (fun _ _ _ h => h) (Or.inl ⟨by rfl, ?_⟩) hHeld ?_
              rotate_left
              · intro w hSw; (try dsimp only at hSw); go_simp; (try with_reducible rfl)
              try simp only [Act.put, List.setIfInBounds_toArray, List.set_cons_zero, List.set_cons_succ]
              refine wpAnyK_takeL (i := 4) (v := ?_) rfl (by kernel_rfl) (by kernel_rfl) (by kernel_rfl) (by kernel_rfl) (fun _ _ _ h => h) (Or.inl ⟨by rfl, ?_⟩) hHeld ?_
              rotate_left
              · intro w hSw; (try dsimp only at hSw); go_simp; (try with_reducible rfl)
              try simp only [Act.put, List.setIfInBounds_toArray, List.set_cons_zero, List.set_cons_succ]
              refine wpAnyK_takeL (i := 0) (v := ?_) rfl (by kernel_rfl) (by kernel_rfl) (by kernel_rfl) (by kernel_rfl) (fun _ _ _ h => h) (Or.inl ⟨by rfl, ?_⟩) hHeld ?_
              rotate_left
              · intro w hSw; (try dsimp only at hSw); go_simp; (try with_reducible rfl)
              try simp only [Act.put, List.setIfInBounds_toArray, List.set_cons_zero, List.set_cons_succ]
              refine wpAnyK_takeL (i := 1) (v := ?_) rfl (by kernel_rfl) (by kernel_rfl) (by kernel_rfl) (by kernel_rfl) (fun _ _ _ h => h) (Or.inl ⟨by rfl, ?_⟩) hHeld ?_
              rotate_left
              · intro w hSw; (try dsimp only at hSw); go_simp; (try with_reducible rfl)
              try simp only [Act.put, List.setIfInBounds_toArray, List.set_cons_zero, List.set_cons_succ]
              refine wpAnyK_takeL (i := 5) (v := ?_) rfl (by kernel_rfl) (by kernel_rfl) (by kernel_rfl) (by kernel_rfl) (fun _ _ _ h => h) (Or.inl ⟨by rfl, ?_⟩) hHeld ?_
              rotate_left
              · intro w hSw; (try dsimp only at hSw); go_simp; (try with_reducible rfl)
              try simp only [Act.put, List.setIfInBounds_toArray, List.set_cons_zero, List.set_cons_succ]
              refine wpAnyK_ready (rs := [6, 10]) (by kernel_rfl) (by simp) ?_
              refine AllReadyK.consL (i := 6) rfl (fun K hK => ?_) ?_
              · refine step_call (vs := #[.agg #[.slice aj p.jam.length cj, .int .i64 p.warm, .int .i64 p.tail, .int .i64 p.dirt], .agg #[.int .i64 t.drive, .bool t.folder, .slice ta n tc, .int .i64 t.fresh], .agg #[.int .i64 ak, .int .i64 ax]]) rfl rfl rfl Try.func60 (by kernel_rfl) (by kernel_rfl) (HACT.out _ XC.out) ?_
                rintro e wy ⟨v6, rfl, hv6, hx, how6⟩
                obtain ⟨a6, c6, hvf, _⟩ := hv6.form
                rw [HAU.out] at hvf how6
                subst hvf
                refine ⟨_, rfl, ?_⟩
                have ow : er = 0 → wy.ownsRow wr.heap.size 98 5 (.slice a6 n c6) n (uL u.units) := fun h => owns_weak (how6 h) XC.out.size
                have OW := Lib.hid ow
                try (have NE : Hid (er = 0 → ∀ b, (Value.slice a6 n c6).ownBlock = some b → ¬ b = nb) := Lib.hid (fun h b hb e => by have h1 := ((how6 h).lt b hb).1; have h2 := NB.out.lt; omega))
                try (replace NB := Lib.hid (NB.out.ext hx))
                replace XC := Lib.hid (XC.out.tr hx)
                clear hx hv6 how6 ow
                refine hK.out _ _ (fun _ => HS.out _ XC.out) (fun hHeld2 => ?_)
                clear hK K
                try clear hHeld
                have hHeld := hHeld2 (by decide)
                clear hHeld2
                try simp only [Act.put, List.setIfInBounds_toArray, List.set_cons_zero, List.set_cons_succ]
                refine wpAnyK_takeL (i := 7) (v := ?_) rfl (by kernel_rfl) (by kernel_rfl) (by kernel_rfl) (by kernel_rfl) (fun _ _ _ h => h) (Or.inl ⟨by rfl, ?_⟩) hHeld ?_
                rotate_left
                · intro w hSw; (try dsimp only at hSw); go_simp; (try with_reducible rfl)
                try simp only [Act.put, List.setIfInBounds_toArray, List.set_cons_zero, List.set_cons_succ]
                refine wpAnyK_takeL (i := 8) (v := ?_) rfl (by kernel_rfl) (by kernel_rfl) (by kernel_rfl) (by kernel_rfl) (fun _ _ _ h => h) (Or.inl ⟨by rfl, ?_⟩) hHeld ?_
                rotate_left
                · intro w hSw; (try dsimp only at hSw); go_simp; (try with_reducible rfl)
                try simp only [Act.put, List.setIfInBounds_toArray, List.set_cons_zero, List.set_cons_succ]
                refine wpAnyK_ready (rs := [9, 10]) (by kernel_rfl) (by simp) ?_
                refine AllReadyK.consL (i := 9) rfl (fun K hK => ?_) ?_
                · go_simp
                  refine hK.out _ _ (fun _ => HS.out _ XC.out) (fun hHeld2 => ?_)
                  clear hK K
                  try clear hHeld
                  have hHeld := hHeld2 (by decide)
                  clear hHeld2
                  try simp only [Act.put, List.setIfInBounds_toArray, List.set_cons_zero, List.set_cons_succ]
                  refine wpAnyK_ready (rs := [10]) (by kernel_rfl) (by simp) ?_
                  refine AllReadyK.consL (i := 10) rfl (fun K hK => ?_) ?_
                  · refine step_allocA (t := 27) rfl rfl Try.zeroValue27 ?_
                    intro nb wy hb hx hl
                    have LNB := Lib.hid (Nat.le_trans XC.out.size hl)
                    have NB := Lib.hid hb
                    try (have NE : Hid (er = 0 → ∀ b, (Value.slice a6 n c6).ownBlock = some b → ¬ b = nb) := Lib.hid (fun h b hb e => by have h1 := ((OW.out h).lt b hb).2; omega))
                    try (replace OW := Lib.hid (fun h => owns_ext (OW.out h) hx))
                    clear hb hl
                    replace XC := Lib.hid (XC.out.tr hx)
                    clear hx
                    refine hK.out _ _ (fun _ => HS.out _ XC.out) (fun hHeld2 => ?_)
                    clear hK K
                    try clear hHeld
                    have hHeld := hHeld2 (by decide)
                    clear hHeld2
                    try simp only [Act.put, List.setIfInBounds_toArray, List.set_cons_zero, List.set_cons_succ]
                    refine wpAnyK_ready (rs := [11]) (by kernel_rfl) (by simp) ?_
                    refine AllReadyK.consL (i := 11) rfl (fun K hK => ?_) ?_
                    · refine step_storeK (cells := #[.int .i64 u.drive, .bool u.folder, .slice a6 n c6, .int .i64 u.fresh]) rfl rfl NB.out rfl rfl (by kernel_rfl) rfl (by simp [Value.oneCell']) ?_
                      intro wz hb ho
                      have xc := XC.out.then_only ho (fun b (e : b = nb) => by rw [e]; exact LNB.out)
                      have ow : er = 0 → wz.ownsRow wr.heap.size 98 5 (.slice a6 n c6) n (uL u.units) := fun h => owns_only (OW.out h) ho (NE.out h)
                      clear OW NB XC ho NE
                      have OW := Lib.hid ow
                      have NB := Lib.hid hb
                      have XC := Lib.hid xc
                      clear ow hb xc
                      refine hK.out _ _ (fun h => absurd h (by decide)) (fun hHeld2 => ?_)
                      clear hK K hHeld2
                      try clear hHeld
                      try simp only [Act.put, List.setIfInBounds_toArray, List.set_cons_zero, List.set_cons_succ]
                      refine wpAnyK_ready (rs := [12]) (by kernel_rfl) (by simp) ?_
                      refine AllReadyK.consL (i := 12) rfl (fun K hK => ?_) ?_
                      · go_simp
                        refine hK.out _ _ (fun h => absurd h (by decide)) (fun hHeld2 => ?_)
                        clear hK K hHeld2
                        try clear hHeld
                        try simp only [Act.put, List.setIfInBounds_toArray, List.set_cons_zero, List.set_cons_succ]
                        refine wpAnyK_done (by kernel_rfl) ?_ _
                        go_wp2
                        go_meet
                        case rel => exact ⟨nb, a6, c6, rfl, rfl, NB, OW, XC⟩
                      · exact AllReadyK.nil
                    · exact AllReadyK.nil
                  · exact AllReadyK.nil
                refine AllReadyK.consL (i := 10) rfl (fun K hK => ?_) ?_
                · refine step_allocA (t := 27) rfl rfl Try.zeroValue27 ?_
                  intro nb wy hb hx hl
                  have LNB := Lib.hid (Nat.le_trans XC.out.size hl)
                  have NB := Lib.hid hb
                  try (have NE : Hid (er = 0 → ∀ b, (Value.slice a6 n c6).ownBlock = some b → ¬ b = nb) := Lib.hid (fun h b hb e => by have h1 := ((OW.out h).lt b hb).2; omega))
                  try (replace OW := Lib.hid (fun h => owns_ext (OW.out h) hx))
                  clear hb hl
                  replace XC := Lib.hid (XC.out.tr hx)
                  clear hx
                  refine hK.out _ _ (fun _ => HS.out _ XC.out) (fun hHeld2 => ?_)
                  clear hK K
                  try clear hHeld
                  have hHeld := hHeld2 (by decide)
                  clear hHeld2
                  try simp only [Act.put, List.setIfInBounds_toArray, List.set_cons_zero, List.set_cons_succ]
                  refine wpAnyK_ready (rs := [9, 11]) (by kernel_rfl) (by simp) ?_
                  refine AllReadyK.consL (i := 9) rfl (fun K hK => ?_) ?_
                  · go_simp
                    refine hK.out _ _ (fun _ => HS.out _ XC.out) (fun hHeld2 => ?_)
                    clear hK K
                    try clear hHeld
                    have hHeld := hHeld2 (by decide)
                    clear hHeld2
                    try simp only [Act.put, List.setIfInBounds_toArray, List.set_cons_zero, List.set_cons_succ]
                    refine wpAnyK_ready (rs := [11]) (by kernel_rfl) (by simp) ?_
                    refine AllReadyK.consL (i := 11) rfl (fun K hK => ?_) ?_
                    · refine step_storeK (cells := #[.int .i64 u.drive, .bool u.folder, .slice a6 n c6, .int .i64 u.fresh]) rfl rfl NB.out rfl rfl (by kernel_rfl) rfl (by simp [Value.oneCell']) ?_
                      intro wz hb ho
                      have xc := XC.out.then_only ho (fun b (e : b = nb) => by rw [e]; exact LNB.out)
                      have ow : er = 0 → wz.ownsRow wr.heap.size 98 5 (.slice a6 n c6) n (uL u.units) := fun h => owns_only (OW.out h) ho (NE.out h)
                      clear OW NB XC ho NE
                      have OW := Lib.hid ow
                      have NB := Lib.hid hb
                      have XC := Lib.hid xc
                      clear ow hb xc
                      refine hK.out _ _ (fun h => absurd h (by decide)) (fun hHeld2 => ?_)
                      clear hK K hHeld2
                      try clear hHeld
                      try simp only [Act.put, List.setIfInBounds_toArray, List.set_cons_zero, List.set_cons_succ]
                      refine wpAnyK_ready (rs := [12]) (by kernel_rfl) (by simp) ?_
                      refine AllReadyK.consL (i := 12) rfl (fun K hK => ?_) ?_
                      · go_simp
                        refine hK.out _ _ (fun h => absurd h (by decide)) (fun hHeld2 => ?_)
                        clear hK K hHeld2
                        try clear hHeld
                        try simp only [Act.put, List.setIfInBounds_toArray, List.set_cons_zero, List.set_cons_succ]
                        refine wpAnyK_done (by kernel_rfl) ?_ _
                        go_wp2
                        go_meet
                        case rel => exact ⟨nb, a6, c6, rfl, rfl, NB, OW, XC⟩
                      · exact AllReadyK.nil
                    · exact AllReadyK.nil
                  refine AllReadyK.consL (i := 11) rfl (fun K hK => ?_) ?_
                  · refine step_storeK (cells := #[.int .i64 u.drive, .bool u.folder, .slice a6 n c6, .int .i64 u.fresh]) rfl rfl NB.out rfl rfl (by kernel_rfl) rfl (by simp [Value.oneCell']) ?_
                    intro wz hb ho
                    have xc := XC.out.then_only ho (fun b (e : b = nb) => by rw [e]; exact LNB.out)
                    have ow : er = 0 → wz.ownsRow wr.heap.size 98 5 (.slice a6 n c6) n (uL u.units) := fun h => owns_only (OW.out h) ho (NE.out h)
                    clear OW NB XC ho NE
                    have OW := Lib.hid ow
                    have NB := Lib.hid hb
                    have XC := Lib.hid xc
                    clear ow hb xc
                    refine hK.out _ _ (fun h => absurd h (by decide)) (fun hHeld2 => ?_)
                    clear hK K hHeld2
                    try clear hHeld
                    try simp only [Act.put, List.setIfInBounds_toArray, List.set_cons_zero, List.set_cons_succ]
                    refine wpAnyK_ready (rs := [9]) (by kernel_rfl) (by simp) ?_
                    refine AllReadyK.consL (i := 9) rfl (fun K hK => ?_) ?_
                    · go_simp
                      refine hK.out _ _ (fun _ => HS.out _ XC.out) (fun hHeld2 => ?_)
                      clear hK K
                      try clear hHeld
                      have hHeld := hHeld2 (by decide)
                      clear hHeld2
                      try simp only [Act.put, List.setIfInBounds_toArray, List.set_cons_zero, List.set_cons_succ]
                      refine wpAnyK_ready (rs := [12]) (by kernel_rfl) (by simp) ?_
                      refine AllReadyK.consL (i := 12) rfl (fun K hK => ?_) ?_
                      · go_simp
                        refine hK.out _ _ (fun h => absurd h (by decide)) (fun hHeld2 => ?_)
                        clear hK K hHeld2
                        try clear hHeld
                        try simp only [Act.put, List.setIfInBounds_toArray, List.set_cons_zero, List.set_cons_succ]
                        refine wpAnyK_done (by kernel_rfl) ?_ _
                        go_wp2
                        go_meet
                        case rel => exact ⟨nb, a6, c6, rfl, rfl, NB, OW, XC⟩
                      · exact AllReadyK.nil
                    · exact AllReadyK.nil
                  · exact AllReadyK.nil
                · exact AllReadyK.nil
              refine AllReadyK.consL (i := 10) rfl (fun K hK => ?_) ?_
              · refine step_allocA (t := 27) rfl rfl Try.zeroValue27 ?_
                intro nb wy hb hx hl
                have LNB := Lib.hid (Nat.le_trans XC.out.size hl)
                have NB := Lib.hid hb
                try (have NE : Hid (er = 0 → ∀ b, (Value.slice a6 n c6).ownBlock = some b → ¬ b = nb) := Lib.hid (fun h b hb e => by have h1 := ((OW.out h).lt b hb).2; omega))
                try (replace OW := Lib.hid (fun h => owns_ext (OW.out h) hx))
                clear hb hl
                replace XC := Lib.hid (XC.out.tr hx)
                clear hx
                refine hK.out _ _ (fun _ => HS.out _ XC.out) (fun hHeld2 => ?_)
                clear hK K
                try clear hHeld
                have hHeld := hHeld2 (by decide)
                clear hHeld2
                try simp only [Act.put, List.setIfInBounds_toArray, List.set_cons_zero, List.set_cons_succ]
                refine wpAnyK_ready (rs := [6]) (by kernel_rfl) (by simp) ?_
                refine AllReadyK.consL (i := 6) rfl (fun K hK => ?_) ?_
                · refine step_call (vs := #[.agg #[.slice aj p.jam.length cj, .int .i64 p.warm, .int .i64 p.tail, .int .i64 p.dirt], .agg #[.int .i64 t.drive, .bool t.folder, .slice ta n tc, .int .i64 t.fresh], .agg #[.int .i64 ak, .int .i64 ax]]) rfl rfl rfl Try.func60 (by kernel_rfl) (by kernel_rfl) (HACT.out _ XC.out) ?_
                  rintro e wy ⟨v6, rfl, hv6, hx, how6⟩
                  obtain ⟨a6, c6, hvf, _⟩ := hv6.form
                  rw [HAU.out] at hvf how6
                  subst hvf
                  refine ⟨_, rfl, ?_⟩
                  have ow : er = 0 → wy.ownsRow wr.heap.size 98 5 (.slice a6 n c6) n (uL u.units) := fun h => owns_weak (how6 h) XC.out.size
                  have OW := Lib.hid ow
                  try (have NE : Hid (er = 0 → ∀ b, (Value.slice a6 n c6).ownBlock = some b → ¬ b = nb) := Lib.hid (fun h b hb e => by have h1 := ((how6 h).lt b hb).1; have h2 := NB.out.lt; omega))
                  try (replace NB := Lib.hid (NB.out.ext hx))
                  replace XC := Lib.hid (XC.out.tr hx)
                  clear hx hv6 how6 ow
                  refine hK.out _ _ (fun _ => HS.out _ XC.out) (fun hHeld2 => ?_)
                  clear hK K
                  try clear hHeld
                  have hHeld := hHeld2 (by decide)
                  clear hHeld2
                  try simp only [Act.put, List.setIfInBounds_toArray, List.set_cons_zero, List.set_cons_succ]
                  refine wpAnyK_takeL (i := 7) (v := ?_) rfl (by kernel_rfl) (by kernel_rfl) (by kernel_rfl) (by kernel_rfl) (fun _ _ _ h => h) (Or.inl ⟨by rfl, ?_⟩) hHeld ?_
                  rotate_left
                  · intro w hSw; (try dsimp only at hSw); go_simp; (try with_reducible rfl)
                  try simp only [Act.put, List.setIfInBounds_toArray, List.set_cons_zero, List.set_cons_succ]
                  refine wpAnyK_takeL (i := 8) (v := ?_) rfl (by kernel_rfl) (by kernel_rfl) (by kernel_rfl) (by kernel_rfl) (fun _ _ _ h => h) (Or.inl ⟨by rfl, ?_⟩) hHeld ?_
                  rotate_left
                  · intro w hSw; (try dsimp only at hSw); go_simp; (try with_reducible rfl)
                  try simp only [Act.put, List.setIfInBounds_toArray, List.set_cons_zero, List.set_cons_succ]
                  refine wpAnyK_ready (rs := [9, 11]) (by kernel_rfl) (by simp) ?_
                  refine AllReadyK.consL (i := 9) rfl (fun K hK => ?_) ?_
                  · go_simp
                    refine hK.out _ _ (fun _ => HS.out _ XC.out) (fun hHeld2 => ?_)
                    clear hK K
                    try clear hHeld
                    have hHeld := hHeld2 (by decide)
                    clear hHeld2
                    try simp only [Act.put, List.setIfInBounds_toArray, List.set_cons_zero, List.set_cons_succ]
                    refine wpAnyK_ready (rs := [11]) (by kernel_rfl) (by simp) ?_
                    refine AllReadyK.consL (i := 11) rfl (fun K hK => ?_) ?_
                    · refine step_storeK (cells := #[.int .i64 u.drive, .bool u.folder, .slice a6 n c6, .int .i64 u.fresh]) rfl rfl NB.out rfl rfl (by kernel_rfl) rfl (by simp [Value.oneCell']) ?_
                      intro wz hb ho
                      have xc := XC.out.then_only ho (fun b (e : b = nb) => by rw [e]; exact LNB.out)
                      have ow : er = 0 → wz.ownsRow wr.heap.size 98 5 (.slice a6 n c6) n (uL u.units) := fun h => owns_only (OW.out h) ho (NE.out h)
                      clear OW NB XC ho NE
                      have OW := Lib.hid ow
                      have NB := Lib.hid hb
                      have XC := Lib.hid xc
                      clear ow hb xc
                      refine hK.out _ _ (fun h => absurd h (by decide)) (fun hHeld2 => ?_)
                      clear hK K hHeld2
                      try clear hHeld
                      try simp only [Act.put, List.setIfInBounds_toArray, List.set_cons_zero, List.set_cons_succ]
                      refine wpAnyK_ready (rs := [12]) (by kernel_rfl) (by simp) ?_
                      refine AllReadyK.consL (i := 12) rfl (fun K hK => ?_) ?_
                      · go_simp
                        refine hK.out _ _ (fun h => absurd h (by decide)) (fun hHeld2 => ?_)
                        clear hK K hHeld2
                        try clear hHeld
                        try simp only [Act.put, List.setIfInBounds_toArray, List.set_cons_zero, List.set_cons_succ]
                        refine wpAnyK_done (by kernel_rfl) ?_ _
                        go_wp2
                        go_meet
                        case rel => exact ⟨nb, a6, c6, rfl, rfl, NB, OW, XC⟩
                      · exact AllReadyK.nil
                    · exact AllReadyK.nil
                  refine AllReadyK.consL (i := 11) rfl (fun K hK => ?_) ?_
                  · refine step_storeK (cells := #[.int .i64 u.drive, .bool u.folder, .slice a6 n c6, .int .i64 u.fresh]) rfl rfl NB.out rfl rfl (by kernel_rfl) rfl (by simp [Value.oneCell']) ?_
                    intro wz hb ho
                    have xc := XC.out.then_only ho (fun b (e : b = nb) => by rw [e]; exact LNB.out)
                    have ow : er = 0 → wz.ownsRow wr.heap.size 98 5 (.slice a6 n c6) n (uL u.units) := fun h => owns_only (OW.out h) ho (NE.out h)
                    clear OW NB XC ho NE
                    have OW := Lib.hid ow
                    have NB := Lib.hid hb
                    have XC := Lib.hid xc
                    clear ow hb xc
                    refine hK.out _ _ (fun h => absurd h (by decide)) (fun hHeld2 => ?_)
                    clear hK K hHeld2
                    try clear hHeld
                    try simp only [Act.put, List.setIfInBounds_toArray, List.set_cons_zero, List.set_cons_succ]
                    refine wpAnyK_ready (rs := [9]) (by kernel_rfl) (by simp) ?_
                    refine AllReadyK.consL (i := 9) rfl (fun K hK => ?_) ?_
                    · go_simp
                      refine hK.out _ _ (fun _ => HS.out _ XC.out) (fun hHeld2 => ?_)
                      clear hK K
                      try clear hHeld
                      have hHeld := hHeld2 (by decide)
                      clear hHeld2
                      try simp only [Act.put, List.setIfInBounds_toArray, List.set_cons_zero, List.set_cons_succ]
                      refine wpAnyK_ready (rs := [12]) (by kernel_rfl) (by simp) ?_
                      refine AllReadyK.consL (i := 12) rfl (fun K hK => ?_) ?_
                      · go_simp
                        refine hK.out _ _ (fun h => absurd h (by decide)) (fun hHeld2 => ?_)
                        clear hK K hHeld2
                        try clear hHeld
                        try simp only [Act.put, List.setIfInBounds_toArray, List.set_cons_zero, List.set_cons_succ]
                        refine wpAnyK_done (by kernel_rfl) ?_ _
                        go_wp2
                        go_meet
                        case rel => exact ⟨nb, a6, c6, rfl, rfl, NB, OW, XC⟩
                      · exact AllReadyK.nil
                    · exact AllReadyK.nil
                  · exact AllReadyK.nil
                · exact AllReadyK.nil
              · exact AllReadyK.nil
          case rest =>
          obtain ⟨nb, a6, c6, rfl, rfl, NB, OW, XC⟩ := hcut
          obtain ⟨w6, rfl⟩ : ∃ W, W = wc := ⟨wc, rfl⟩
          have sb6 := SBT.out.ext XC.out
          have rb6 := RBT.out.ext XC.out
          have pb6 := PBT.out.ext XC.out
          have x6 := XT.out.tr XC.out
          have lsb := SBT.out.lt
          have lrb := RBT.out.lt
          have lxt := XT.out.size
          clear SBT RBT PBT XT
          have c3 := sb6.cell
          have c4 := NB.out.cell
          have SB6 := Lib.hid sb6
          have RB6 := Lib.hid rb6
          have PB6 := Lib.hid pb6
          have X6 := Lib.hid x6
          have LSB := Lib.hid lsb
          have LRB := Lib.hid lrb
          have LXT := Lib.hid lxt
          clear sb6 rb6 pb6 x6 lsb lrb lxt
          by_cases h9 : er = 0
          · subst h9
            have hnx := HPN.out
            rw [progR_ok (by exact HER.out)] at hnx
            dsimp only at hnx
            have hgu : Good p u := by
              have := act_good GT.out HER.out
              rw [← HUD.out]
              unfold actD; rw [if_pos HER.out]
              exact this
            rw [HUD.out] at hnx
            have ow := OW.out rfl
            have hun : UnIn w6 (.slice a6 n c6) u.units := UnIn.of_owns (by rw [HAU.out]; exact ow) (by rw [HAU.out]; have := HL.out; omega)
            have hbn : ∀ b, (Value.slice a6 n c6).ownBlock = some b → b ≠ sb ∧ b ≠ rb := fun b hb => by
              have h1 := (ow.lt b hb).1
              have h2 := LSB.out
              have h3 := LRB.out
              omega
            have hbo : ∀ b, (Value.slice a6 n c6).ownBlock = some b → (Value.slice a n c).ownBlock = some b ∨ w.heap.size ≤ b := fun b hb => .inr (Nat.le_trans LXT.out (ow.lt b hb).1)
            clear ow
            have HNX := Lib.hid hnx
            have GU := Lib.hid hgu
            have UN := Lib.hid hun
            have HBN := Lib.hid hbn
            have HBO := Lib.hid hbo
            clear hnx hgu hun hbn hbo
            go_wp2_with (
              with_reducible refine wpList_storeK (ty := 27) (cells := #[.int .i64 u.drive, .bool u.folder, .slice a6 n c6, .int .i64 u.fresh]) rfl rfl SB6.out ?_ ?_ ?_ ?_ ?_ ?_
              · rfl
              · rfl
              · kernel_rfl
              · rfl
              · simp [Value.oneCell']
              rintro w7 hb7 ho7
              have x2 := X6.out.then_only ho7 (fun k (e : k = sb) => by rw [e]; exact LS.out)
              have rb7 := RB6.out.only ho7 (fun e => HRS.out e.symm)
              have pb7 := PB6.out.only ho7 (fun e => absurd (blk_ty PB6.out (e ▸ SB6.out)) (by decide))
              have un7 := UN.out.only ho7 (fun b hb => (HBN.out b hb).1)
              clear X6 RB6 PB6 UN ho7 SB6 c3 c4
              have X6 := Lib.hid x2
              have RB6 := Lib.hid rb7
              have PB6 := Lib.hid pb7
              have UN := Lib.hid un7
              have SB6 := Lib.hid hb7
              clear x2 rb7 pb7 un7 hb7)
            go_roundw
            case rel => exact ⟨k + 1, u, a6, c6, by omega, by go_num, HAU.out, GU, HNX, SB6, UN, HBN, PB6, RB6, X6, HBO⟩
            case measure => first | (simp [intOf]; done) | (simp [intOf]; omega)
          · have f1' : (er != 0) = true := by simp [h9]
            have hne : actErr p t ak ax ≠ 0 := by rw [HER.out]; exact h9
            have hnx := HPN.out
            rw [progR_no (by exact hne)] at hnx
            have un6 := UT.out.ext XC.out
            have e1 : pgS p s l = t := by rw [HS1.out, ← hnx]
            have e2 : pgN p s l = (k:Int) := by rw [HS2.out, ← hnx]
            have e3 : pgE p s l = er := by rw [HS3.out, ← hnx]; exact HER.out
            clear hnx hne HPN HS1 HS2 HS3
            have UN := Lib.hid un6
            have E1 := Lib.hid e1
            have E2 := Lib.hid e2
            have E3 := Lib.hid e3
            clear un6 e1 e2 e3
            go_wp2_with (
              with_reducible refine wpList_storeK (ty := 27) (cells := #[.int .i64 t.drive, .bool t.folder, .slice ta n tc, .int .i64 t.fresh]) rfl rfl RB6.out ?_ ?_ ?_ ?_ ?_ ?_
              · rfl
              · rfl
              · kernel_rfl
              · rfl
              · simp [Value.oneCell']
              rintro w7 hb7 ho7
              have k0 := hb7.cell
              have x2 := X6.out.then_only ho7 (fun k (e : k = rb) => by rw [e]; exact LR.out)
              have un7 := UN.out.only ho7 (fun b hb => (BLT.out b hb).2)
              clear X6 RB6 UN ho7 hb7
              have X6 := Lib.hid x2
              have UN := Lib.hid un7
              clear x2 un7)
            refine bodyPost_ret (v := .tuple #[.agg #[.int .i64 t.drive, .bool t.folder, .slice ta n tc, .int .i64 t.fresh], .int .i64 k, .int .i64 er]) (by simp [results, Try.results34, go_sem, k0]) rfl ?_
            exact ⟨.slice ta n tc, by rw [E1.out, E2.out, E3.out] <;> rfl, by rw [E1.out]; exact UN.out, X6.out, BLO.out⟩
        · have i2 : decide ((k:Int) < (l.length:Int)) = false := decide_eq_false (by omega)
          have hnx := HPR.out
          rw [List.drop_eq_nil_of_le (by omega)] at hnx
          rw [progR_nil] at hnx
          obtain rfl : k = l.length := by omega
          have e1 : pgS p s l = t := by rw [HS1.out, ← hnx]
          have e2 : pgN p s l = (l.length:Int) := by rw [HS2.out, ← hnx]
          have e3 : pgE p s l = 0 := by rw [HS3.out, ← hnx]
          have c3 := SBT.out.cell
          clear hnx HS1 HS2 HS3 HPR
          have E1 := Lib.hid e1
          have E2 := Lib.hid e2
          have E3 := Lib.hid e3
          clear e1 e2 e3
          go_wp2_with (
            with_reducible refine wpList_storeK (ty := 27) (cells := #[.int .i64 t.drive, .bool t.folder, .slice ta n tc, .int .i64 t.fresh]) rfl rfl RBT.out ?_ ?_ ?_ ?_ ?_ ?_
            · rfl
            · rfl
            · kernel_rfl
            · rfl
            · simp [Value.oneCell']
            rintro w7 hb7 ho7
            have k0 := hb7.cell
            have x2 := XT.out.then_only ho7 (fun k (e : k = rb) => by rw [e]; exact LR.out)
            have un7 := UT.out.only ho7 (fun b hb => (BLT.out b hb).2)
            clear XT RBT UT ho7 hb7
            have XT := Lib.hid x2
            have UT := Lib.hid un7
            clear x2 un7)
          refine bodyPost_ret (v := .tuple #[.agg #[.int .i64 t.drive, .bool t.folder, .slice ta n tc, .int .i64 t.fresh], .int .i64 l.length, .int .i64 0]) (by simp [results, Try.results34, go_sem, k0]) rfl ?_
          exact ⟨.slice ta n tc, by rw [E1.out, E2.out, E3.out] <;> rfl, by rw [E1.out]; exact UT.out, XT.out, BLO.out⟩
  · have f1 : (e1 != 0) = true := by simp [h1]
    have f2 : (e1 == 0) = false := by simp [h1]
    have hp2 : pgErr p s l = e1 := by unfold pgErr; rw [HE1.out, if_pos h1]
    have hs1 : pgS p s l = zD := by unfold pgS; rw [if_pos (by rw [hp2]; exact h1)]
    have hs2 : pgN p s l = 0 := by unfold pgN; rw [if_pos (by rw [hp2]; exact h1)]
    have hs3 : pgE p s l = e1 := by unfold pgE; rw [if_pos (by rw [hp2]; exact h1)]; exact hp2
    clear hp2
    have HS1 := Lib.hid hs1
    have HS2 := Lib.hid hs2
    have HS3 := Lib.hid hs3
    clear hs1 hs2 hs3
    go_wp2_with (first
      | (with_reducible refine wpList_storeK (ty := 27) (cells := #[.int .i64 0, .bool false, .slice none 0 0, .int .i64 0]) rfl rfl RB.out ?_ ?_ ?_ ?_ ?_ ?_
         · rfl
         · rfl
         · kernel_rfl
         · rfl
         · simp [Value.oneCell']
         rintro w7 hb7 ho7
         have k0 := hb7.cell
         have x2 := X1.out.then_only ho7 (fun k (e : k = rb) => by rw [e]; exact LR.out)
         clear X1 RB ho7 hb7
         have X1 := Lib.hid x2
         clear x2)
    )
    refine bodyPost_ret (v := .tuple #[sZ, .int .i64 0, .int .i64 e1]) (by simp [results, Try.results34, go_sem, k0, sZ]) rfl ?_
    exact ⟨.slice none 0 0, by rw [HS1.out, HS2.out, HS3.out] <;> rfl, by rw [HS1.out]; exact UnIn.nil _, X1.out, fun b hb => by cases hb⟩
end Go.Proofs.Ytojobdffnnibaaa

/- PressActs: the reference's Break. -/
namespace Go.Proofs.Ytojobdffnnibaaa
open Go.RowKit
set_option linter.unusedVariables false
set_option linter.unusedSimpArgs false

/-- What Break answers. -/
def bkS (p : PressD) (s : StD) (x : Int) : StD := if brErr p s x = 0 then brD s x.toNat else zD
def bkN (p : PressD) (s : StD) (x : Int) : Int := if brErr p s x = 0 then min p.tail s.fresh else 0
theorem brD_len (s : StD) (i : Nat) : (brD s i).units.length = s.units.length := by unfold brD; dsimp only; rw [List.length_set, List.length_map]
theorem brD_at (s : StD) (i k : Nat) (h : k < (brD s i).units.length) (hk : k < s.units.length) : (brD s i).units[k] = if k = i then torn (offP s.units[k]) else offP s.units[k] := by
  have e : (brD s i).units = (s.units.map offP).set i (torn (offP (s.units.getD i default))) := rfl
  have h2 : (brD s i).units[k]? = ((s.units.map offP).set i (torn (offP (s.units.getD i default))))[k]? := by rw [e]
  rw [List.getElem?_eq_getElem h] at h2
  by_cases hki : k = i
  · subst hki
    rw [if_pos rfl]
    rw [List.getElem?_set_self (by rw [List.length_map]; exact hk)] at h2
    rw [List.getD_eq_getElem?_getD, List.getElem?_eq_getElem hk] at h2
    exact Option.some.inj h2
  · rw [if_neg hki]
    rw [List.getElem?_set_ne (fun e => hki e.symm), List.getElem?_map, List.getElem?_eq_getElem hk] at h2
    exact Option.some.inj h2

theorem tUnitsR : SliceT Try.prog 25 98 (.agg #[.bool false, .bool false, .bool false, .bool false, .int .i64 0]) 5 16 := ⟨by kernel_rfl, by kernel_rfl, rfl, by decide, by decide⟩

set_option maxRecDepth 100000 in
set_option maxHeartbeats 4000000 in
theorem rBreak_any (p : PressD) (s : StD) (x : Int) (vj vu : Value) (w : World) (hj : Truths w vj p.jam) (hu : UnIn w vu s.units) (hl : s.units.length ≤ 1000000) :
    Calls Try.prog 37 #[pV vj p, sV vu s, .int .i64 x] w fun e w' => ∃ v, e = .returned (.tuple #[sV v (bkS p s x), .int .i64 (bkN p s x), .int .i64 (brErr p s x)]) ∧ UnIn w' v (bkS p s x).units ∧ Ext w w' ∧ ∀ b, v.ownBlock = some b → w.heap.size ≤ b := by
  have hst := fun w1 (kx : Ext w w1) => rStarted_any p s vj vu w1 (Sl.ext hj kx) (hu.ext kx) hl
  have hui := hu
  obtain ⟨a, c, rfl, _⟩ := hu.form
  clear hu
  obtain ⟨_, aj, cj, hvj, _⟩ := hj
  rw [List.length_map] at hvj
  subst hvj
  obtain ⟨n, hn⟩ : ∃ n, s.units.length = n := ⟨_, rfl⟩
  unfold pV sV at hst
  rw [hn] at hst hl hui
  unfold pV sV
  rw [hn]
  obtain ⟨e1, he1⟩ : ∃ e, stErr p s = e := ⟨_, rfl⟩
  rw [he1] at hst
  have HST := Lib.hid hst
  have HN := Lib.hid hn
  have HE1 := Lib.hid he1
  have HL := Lib.hid hl
  have HUI := Lib.hid hui
  clear hst hn he1 hl hui
  go_enter Try.func37, Try.ntmps37
  go_upto_region 2 with (first
    | (with_reducible refine wpList_boxA (t := 24) (cs := #[.slice aj p.jam.length cj, .int .i64 p.warm, .int .i64 p.tail, .int .i64 p.dirt]) rfl rfl rfl ?_
       rintro xb w1 hx1 hx2 hx3
       have PB := Lib.hid hx1
       have X1 := Lib.hid hx2
       clear hx1 hx2
       clear hx3)
    | (with_reducible refine wpList_boxA (t := 27) (cs := #[.int .i64 s.drive, .bool s.folder, .slice a n c, .int .i64 s.fresh]) rfl rfl rfl ?_
       rintro sb w2 hy1 hy2 hy3
       have pb2 := PB.out.ext hy2
       have ls := Nat.le_trans X1.out.size hy3
       have x2 := X1.out.tr hy2
       clear PB X1
       have SB := Lib.hid hy1
       have PB := Lib.hid pb2
       have X1 := Lib.hid x2
       have LS := Lib.hid ls
       clear hy1 pb2 x2 ls
       clear hy3 hy2)
    | (with_reducible refine wpList_allocA (t := 27) rfl rfl Try.zeroValue27 ?_
       rintro rb w4 hy1 hy2 hy3
       have pb2 := PB.out.ext hy2
       have sb2 := SB.out.ext hy2
       have hrs : sb ≠ rb := fun e => by have := SB.out.lt; omega
       have lr := Nat.le_trans X1.out.size hy3
       have x2 := X1.out.tr hy2
       have c1 := pb2.cell
       have c2 := sb2.cell
       clear PB X1 SB
       have SB := Lib.hid sb2
       have PB := Lib.hid pb2
       have X1 := Lib.hid x2
       have RB := Lib.hid hy1
       have LR := Lib.hid lr
       have HRS := Lib.hid hrs
       clear sb2 pb2 x2 hy1 lr hrs
       clear hy3 hy2)
    | (go_at_call 46
       refine (HST.out _ X1.out).mono ?_
       rintro e w5 ⟨rfl, hx⟩
       have pb2 := PB.out.ext hx
       have sb2 := SB.out.ext hx
       have rb2 := RB.out.ext hx
       have x2 := X1.out.tr hx
       clear c1 c2 PB X1 SB RB hx HST
       have c1 := pb2.cell
       have c2 := sb2.cell
       have SB := Lib.hid sb2
       have PB := Lib.hid pb2
       have X1 := Lib.hid x2
       have RB := Lib.hid rb2
       clear sb2 pb2 x2 rb2))
  by_cases h1 : e1 = 0
  · subst h1
    have hbr : brErr p s x = if x < 0 ∨ (n : Int) ≤ x then 1 else if s.drive = 0 ∨ (s.units.getD x.toNat default).th = false then 80 else 0 := by
      unfold brErr; rw [if_neg (by rw [HE1.out]; simp), HN.out]
    have HBR := Lib.hid hbr
    clear hbr
    by_cases h2 : x < 0
    · have i1 : x < 0 := h2
      have hb1 : brErr p s x = 1 := by rw [HBR.out, if_pos (Or.inl h2)]
      have hs1 : bkS p s x = zD := by unfold bkS; rw [if_neg (by rw [hb1] <;> decide)]
      have hs2 : bkN p s x = 0 := by unfold bkN; rw [if_neg (by rw [hb1] <;> decide)]
      have HB1 := Lib.hid hb1
      have HS1 := Lib.hid hs1
      have HS2 := Lib.hid hs2
      clear hb1 hs1 hs2
      go_wp2_with (first
        | (with_reducible refine wpList_storeK (ty := 27) (cells := #[.int .i64 0, .bool false, .slice none 0 0, .int .i64 0]) rfl rfl RB.out ?_ ?_ ?_ ?_ ?_ ?_
           · rfl
           · rfl
           · kernel_rfl
           · rfl
           · simp [Value.oneCell']
           rintro w7 hb7 ho7
           have k0 := hb7.cell
           have x2 := X1.out.then_only ho7 (fun k (e : k = rb) => by rw [e]; exact LR.out)
           clear X1 RB ho7 hb7
           have X1 := Lib.hid x2
           clear x2)
      )
      refine bodyPost_ret (v := .tuple #[sZ, .int .i64 0, .int .i64 1]) (by simp [results, Try.results37, go_sem, k0, sZ]) rfl ?_
      exact ⟨.slice none 0 0, by rw [HB1.out, HS1.out, HS2.out] <;> rfl, by rw [HS1.out]; exact UnIn.nil _, X1.out, fun b hb => by cases hb⟩
    have i1 : decide (x < 0) = false := decide_eq_false h2
    by_cases h3 : (n : Int) ≤ x
    · have i2 : (n : Int) ≤ x := h3
      have hb1 : brErr p s x = 1 := by rw [HBR.out, if_pos (Or.inr h3)]
      have hs1 : bkS p s x = zD := by unfold bkS; rw [if_neg (by rw [hb1] <;> decide)]
      have hs2 : bkN p s x = 0 := by unfold bkN; rw [if_neg (by rw [hb1] <;> decide)]
      have HB1 := Lib.hid hb1
      have HS1 := Lib.hid hs1
      have HS2 := Lib.hid hs2
      clear hb1 hs1 hs2
      go_wp2_with (first
        | (with_reducible refine wpList_storeK (ty := 27) (cells := #[.int .i64 0, .bool false, .slice none 0 0, .int .i64 0]) rfl rfl RB.out ?_ ?_ ?_ ?_ ?_ ?_
           · rfl
           · rfl
           · kernel_rfl
           · rfl
           · simp [Value.oneCell']
           rintro w7 hb7 ho7
           have k0 := hb7.cell
           have x2 := X1.out.then_only ho7 (fun k (e : k = rb) => by rw [e]; exact LR.out)
           clear X1 RB ho7 hb7
           have X1 := Lib.hid x2
           clear x2)
      )
      refine bodyPost_ret (v := .tuple #[sZ, .int .i64 0, .int .i64 1]) (by simp [results, Try.results37, go_sem, k0, sZ]) rfl ?_
      exact ⟨.slice none 0 0, by rw [HB1.out, HS1.out, HS2.out] <;> rfl, by rw [HS1.out]; exact UnIn.nil _, X1.out, fun b hb => by cases hb⟩
    have i2 : decide ((n : Int) ≤ x) = false := decide_eq_false h3
    obtain ⟨i, rfl⟩ : ∃ i : Nat, x = (i : Int) := ⟨x.toNat, by omega⟩
    have hin : i < n := by omega
    have hbr2 := HBR.out
    rw [if_neg (by omega), Int.toNat_natCast] at hbr2
    have hil : i < s.units.length := by rw [HN.out]; exact hin
    have hgd0 : s.units.getD i default = s.units[i] := by rw [List.getD_eq_getElem?_getD, List.getElem?_eq_getElem hil]; rfl
    rw [hgd0] at hbr2
    obtain ⟨ub, uo, rfl, hcu⟩ := UnIn.cells (HUI.out.ext X1.out) (by rw [HN.out]; omega)
    obtain ⟨_, d1, _⟩ := hcu i hil
    obtain ⟨ut, hut⟩ : ∃ b, s.units[i].th = b := ⟨_, rfl⟩
    rw [hut] at d1 hbr2
    obtain ⟨dr, hdr⟩ : ∃ d, s.drive = d := ⟨_, rfl⟩
    rw [hdr] at hbr2
    rw [hdr] at c2
    have i3 : (0:Int) ≤ (i:Int) := by omega
    have i4 : (i:Int) < (n:Int) := by omega
    clear hcu hgd0 hut HBR
    have HBR := Lib.hid hbr2
    have HDR := Lib.hid hdr
    clear hbr2 hdr
    by_cases h4 : dr = 0
    · have f4 : (dr == 0) = true := by simp [h4]
      have hb1 : brErr p s i = 80 := by rw [HBR.out, if_pos (Or.inl h4)]
      clear h4
      have hs1 : bkS p s i = zD := by unfold bkS; rw [if_neg (by rw [hb1] <;> decide)]
      have hs2 : bkN p s i = 0 := by unfold bkN; rw [if_neg (by rw [hb1] <;> decide)]
      have HB1 := Lib.hid hb1
      have HS1 := Lib.hid hs1
      have HS2 := Lib.hid hs2
      clear hb1 hs1 hs2
      go_wp2_with (first
        | (with_reducible refine wpList_storeK (ty := 27) (cells := #[.int .i64 0, .bool false, .slice none 0 0, .int .i64 0]) rfl rfl RB.out ?_ ?_ ?_ ?_ ?_ ?_
           · rfl
           · rfl
           · kernel_rfl
           · rfl
           · simp [Value.oneCell']
           rintro w7 hb7 ho7
           have k0 := hb7.cell
           have x2 := X1.out.then_only ho7 (fun k (e : k = rb) => by rw [e]; exact LR.out)
           clear X1 RB ho7 hb7
           have X1 := Lib.hid x2
           clear x2)
      )
      refine bodyPost_ret (v := .tuple #[sZ, .int .i64 0, .int .i64 80]) (by simp [results, Try.results37, go_sem, k0, sZ]) rfl ?_
      exact ⟨.slice none 0 0, by rw [HB1.out, HS1.out, HS2.out] <;> rfl, by rw [HS1.out]; exact UnIn.nil _, X1.out, fun b hb => by cases hb⟩
    have f4 : (dr == 0) = false := by simp [h4]
    cases ut
    · have hb1 : brErr p s i = 80 := by rw [HBR.out, if_pos (Or.inr rfl)]
      clear h4
      have hs1 : bkS p s i = zD := by unfold bkS; rw [if_neg (by rw [hb1] <;> decide)]
      have hs2 : bkN p s i = 0 := by unfold bkN; rw [if_neg (by rw [hb1] <;> decide)]
      have HB1 := Lib.hid hb1
      have HS1 := Lib.hid hs1
      have HS2 := Lib.hid hs2
      clear hb1 hs1 hs2
      go_wp2_with (first
        | (with_reducible refine wpList_storeK (ty := 27) (cells := #[.int .i64 0, .bool false, .slice none 0 0, .int .i64 0]) rfl rfl RB.out ?_ ?_ ?_ ?_ ?_ ?_
           · rfl
           · rfl
           · kernel_rfl
           · rfl
           · simp [Value.oneCell']
           rintro w7 hb7 ho7
           have k0 := hb7.cell
           have x2 := X1.out.then_only ho7 (fun k (e : k = rb) => by rw [e]; exact LR.out)
           clear X1 RB ho7 hb7
           have X1 := Lib.hid x2
           clear x2)
      )
      refine bodyPost_ret (v := .tuple #[sZ, .int .i64 0, .int .i64 80]) (by simp [results, Try.results37, go_sem, k0, sZ]) rfl ?_
      exact ⟨.slice none 0 0, by rw [HB1.out, HS1.out, HS2.out] <;> rfl, by rw [HS1.out]; exact UnIn.nil _, X1.out, fun b hb => by cases hb⟩
    have hb0 : brErr p s i = 0 := by rw [HBR.out, if_neg (by simp [h4])]
    have hs1 : bkS p s i = brD s i := by unfold bkS; rw [if_pos hb0, Int.toNat_natCast]
    have hs2 : bkN p s i = min p.tail s.fresh := by unfold bkN; rw [if_pos hb0]
    clear h4 HBR
    obtain ⟨fo, hfo⟩ : ∃ b, s.folder = b := ⟨_, rfl⟩
    rw [hfo] at c2
    have sbx := SB.out
    rw [HDR.out, hfo] at sbx
    clear SB
    have HB0 := Lib.hid hb0
    have HS1 := Lib.hid hs1
    have HS2 := Lib.hid hs2
    have SB := Lib.hid sbx
    have HFO := Lib.hid hfo
    clear hb0 hs1 hs2 sbx hfo
    go_upto_region 9 with (first
      | (with_reducible refine wpList_allocA (t := 27) rfl rfl Try.zeroValue27 ?_
         rintro nb w7 hy1 hy2 hy3
         have ln : w5.heap.size ≤ nb := hy3
         have rbl := RB.out.lt
         have sbl := SB.out.lt
         have xbl := PB.out.lt
         have hnr : nb ≠ rb := fun e => by omega
         have hns : nb ≠ sb := fun e => by omega
         have hnx : nb ≠ xb := fun e => by omega
         clear hy3 rbl sbl xbl
         have NB := Lib.hid hy1
         have Z := Lib.hid hy2
         have LN := Lib.hid ln
         have HNR := Lib.hid hnr
         have HNS := Lib.hid hns
         have HNX := Lib.hid hnx
         clear hy1 hy2 ln hnr hns hnx)
      | (with_reducible refine wpList_storeK (ty := 27) (cells := #[.int .i64 0, .bool fo, .slice none 0 0, .int .i64 0]) rfl rfl NB.out ?_ ?_ ?_ ?_ ?_ ?_
         · rfl
         · rfl
         · kernel_rfl
         · rfl
         · simp [Value.oneCell']
         rintro w8 hb ho
         have hx := Z.out.then_only ho (fun k (e : k = nb) => by rw [e]; exact LN.out)
         have pb2 := PB.out.ext hx
         have sb2 := SB.out.ext hx
         have rb2 := RB.out.ext hx
         have x2 := X1.out.tr hx
         have lw := x2.size
         have lnb := Nat.le_trans X1.out.size LN.out
         clear RB X1 hx ho Z NB PB SB c1 c2 d1 LN
         have X1 := Lib.hid x2
         have RB := Lib.hid rb2
         have PB := Lib.hid pb2
         have SB := Lib.hid sb2
         have NB := Lib.hid hb
         have LW := Lib.hid lw
         have LN := Lib.hid lnb
         clear x2 rb2 pb2 sb2 hb lw lnb))
    have hbl : (brD s i).units.length = n := by rw [brD_len]; exact HN.out
    have HBL := Lib.hid hbl
    clear hbl
    clear i1 i2 f4
    go_upto_region 10 with (fail)
    go_loopw [11] (fun t11 wr => ∃ (k : Nat) (v : Value), k ≤ n ∧ t11 = .int .i64 k ∧ Hid (Blk wr nb #[.int .i64 0, .bool fo, v, .int .i64 0] 27) ∧ Hid (wr.ownsRow w8.heap.size 98 5 v k (uL ((brD s i).units.take k))) ∧ Hid (Only (fun b => b = nb) w8 wr)) (fun t11 _ => n - (intOf t11).toNat)
    case atStart => exact ⟨0, _, by omega, rfl, NB, World.ownsRow_nil _ _ _ _, Only.refl _ _⟩
    case round =>
      obtain ⟨k, v, hk, rfl, HNB, HO, HON⟩ := hrel
      obtain ⟨a5, c5, rfl⟩ := row_form HO.out
      have hkb : k ≤ 1000000 := Nat.le_trans hk HL.out
      have sb5 := SB.out.only HON.out (fun e => HNS.out e.symm)
      have c2 := sb5.cell
      have SB5 := Lib.hid sb5
      clear sb5
      by_cases hlt : k < n
      · have xw : Ext w wr := X1.out.then_only HON.out (fun b (e : b = nb) => by rw [e]; exact LN.out)
        obtain ⟨_, _, hab, hcu⟩ := UnIn.cells (HUI.out.ext xw) (by rw [HN.out]; omega)
        cases hab
        have hkl : k < s.units.length := by rw [HN.out]; exact hlt
        obtain ⟨d0, d1, d2, d3, d4⟩ := hcu k hkl
        have hsn : uL ((brD s i).units.take (k + 1)) = uL ((brD s i).units.take k) ++ uC ((brD s i).units[k]'(by rw [HBL.out]; exact hlt)) := by
          unfold uL; rw [List.take_succ_eq_append_getElem (by rw [HBL.out]; exact hlt), List.flatMap_append]; simp
        rw [brD_at s i k (by rw [HBL.out]; exact hlt) hkl] at hsn
        obtain ⟨u, hu⟩ : ∃ u, s.units[k] = u := ⟨_, rfl⟩
        rw [hu] at d0 d1 d2 d3 d4 hsn
        obtain ⟨uo, ut, uc, up, ui⟩ := u
        dsimp only at d0 d1 d2 d3 d4
        have i5 : (0:Int) ≤ (k:Int) := by omega
        have i6 : (k:Int) < (n:Int) := by omega
        clear hu hcu xw
        go_upto_region 14 with (first
          | (with_reducible refine wpList_allocA (t := 98) rfl rfl Try.zeroValue98 ?_
             rintro qb w9 hy1 hy2 hy3
             have lq : wr.heap.size ≤ qb := hy3
             have e0 := hy2.cellSome d0
             have e1 := hy2.cellSome d1
             have e2 := hy2.cellSome d2
             have e3 := hy2.cellSome d3
             have e4 := hy2.cellSome d4
             have c2b := (SB5.out.ext hy2).cell
             clear hy3 d0 d1 d2 d3 d4 c2
             have QB := Lib.hid hy1
             have Z := Lib.hid hy2
             have LQ := Lib.hid lq
             clear hy1 hy2 lq)
          | (with_reducible refine wpList_storeK (ty := 98) (cells := #[.bool uo, .bool ut, .bool uc, .bool up, .int .i64 ui]) rfl rfl QB.out ?_ ?_ ?_ ?_ ?_ ?_
             · rfl
             · rfl
             · kernel_rfl
             · rfl
             · simp [Value.oneCell']
             rintro w10 hb ho
             have hx := Z.out.then_only ho (fun k (e : k = qb) => by rw [e]; exact LQ.out)
             clear Z QB ho e0 e1 e2 e3 e4 c2b
             have XQ := Lib.hid hx
             have QB := Lib.hid hb
             clear hx hb)
          | (with_reducible refine wpList_setK (b := qb) (i := 3) (v := .bool false) rfl rfl QB.out ?_ ?_ ?_ ?_ ?_ ?_ ?_
             · rfl
             · rfl
             · simp
             · kernel_rfl
             · rfl
             · simp [Value.oneCell']
             rintro w11 hb ho
             have hx := XQ.out.then_only ho (fun k (e : k = qb) => by rw [e]; exact LQ.out)
             have hb2 : Blk w11 qb #[.bool uo, .bool ut, .bool uc, .bool false, .int .i64 ui] 98 := hb
             clear XQ QB ho hb
             have XQ := Lib.hid hx
             have QB := Lib.hid hb2
             clear hx hb2))
        by_cases hki : k = i
        · have f5 : ((k:Int) == (i:Int)) = true := by simp [hki]
          rw [if_pos hki] at hsn
          have HSN := Lib.hid hsn
          clear hsn
          clear hki
          go_upto_region 17 with (first
            | (with_reducible refine wpList_setK (b := qb) (i := 1) (v := .bool false) rfl rfl QB.out ?_ ?_ ?_ ?_ ?_ ?_ ?_
               · rfl
               · rfl
               · simp
               · kernel_rfl
               · rfl
               · simp [Value.oneCell']
               rintro w13 hb ho
               have hx := XQ.out.then_only ho (fun k (e : k = qb) => by rw [e]; exact LQ.out)
               have hb2 : Blk w13 qb #[.bool uo, .bool false, .bool uc, .bool false, .int .i64 ui] 98 := hb
               clear XQ QB ho hb
               have XQ := Lib.hid hx
               have QC := Lib.hid hb2
               clear hx hb2)
            | (with_reducible refine wpList_setK (b := qb) (i := 2) (v := .bool false) rfl rfl QC.out ?_ ?_ ?_ ?_ ?_ ?_ ?_
               · rfl
               · rfl
               · simp
               · kernel_rfl
               · rfl
               · simp [Value.oneCell']
               rintro w14 hb ho
               have hx := XQ.out.then_only ho (fun k (e : k = qb) => by rw [e]; exact LQ.out)
               have hb2 : Blk w14 qb #[.bool uo, .bool false, .bool false, .bool false, .int .i64 ui] 98 := hb
               clear XQ QC ho hb
               have XQ := Lib.hid hx
               have QB := Lib.hid hb2
               clear hx hb2))
          have nb2 := HNB.out.ext XQ.out
          have ho2 := owns_ext HO.out XQ.out
          have hn2 := HON.out.then (Only.of_ext (S := fun _ => False) XQ.out) (fun _ _ h => h.elim)
          have q5 := nb2.cell
          have q6 := QB.out.cell
          clear HNB HO HON
          have HNB := Lib.hid nb2
          have HO := Lib.hid ho2
          have HON := Lib.hid hn2
          clear nb2 ho2 hn2
          go_wp2_with (first
            | (at_builtin
               refine wpList_app (n := k) (m := 1) tUnitsR rfl rfl (v := .slice a5 k c5) rfl (owns_ext HO.out (ext_lit _ _ _)) rfl (Src.lit _ [.bool uo, .bool false, .bool false, .bool false, .int .i64 ui] 1 5 rfl 98 1) (by simp [Value.oneCell']) (by have := HL.out; omega) (Nat.le_trans HON.out.size (by simp)) ?_
               rintro v' w12 t1 t2 t3
               have xt := (HON.out.then (Only.of_ext (S := fun _ => False) (ext_lit w14 _ _)) (fun _ _ h => h.elim)).then (only_grown t2) (fun b hb e => by have h1 := (HO.out.lt b e).1; omega)
               have hbs : ∀ b, (Value.slice a5 k c5).ownBlock = some b → w8.heap.size ≤ b := fun b hb => (HO.out.lt b hb).1
               have nb2 := (HNB.out.ext (ext_lit w14 _ _)).only (only_grown t2) (fun e => by have h1 := hbs _ e; have h2 := NB.out.lt; omega)
               rw [show uL ((brD s i).units.take k) ++ [.bool uo, .bool false, .bool false, .bool false, .int .i64 ui] = uL ((brD s i).units.take (k + 1)) from HSN.out.symm] at t1
               obtain ⟨a6, c6', hv6⟩ := row_form t1
               subst hv6
               have hnn : ∀ b, (Value.slice a6 (k + 1) c6').ownBlock = some b → b ≠ nb := fun b hb e => by have h1 := (t1.lt b hb).1; have h2 := NB.out.lt; omega
               clear q5 q6 HO HON HNB
               have HO := Lib.hid t1
               have HON := Lib.hid xt
               have HNB := Lib.hid nb2
               have HNN := Lib.hid hnn
               clear t1 xt nb2 hnn
               clear t2 t3 hbs)
            | (with_reducible refine wpList_setK (b := nb) (i := 2) (v := .slice a6 (k + 1) c6') rfl rfl HNB.out ?_ ?_ ?_ ?_ ?_ ?_ ?_
               · rfl
               · rfl
               · simp
               · kernel_rfl
               · rfl
               · rfl
               rintro wS hbS hoS
               have ho2 := owns_only HO.out hoS HNN.out
               have hn2 := HON.out.tr hoS
               have hb2 : Blk wS nb #[.int .i64 0, .bool fo, .slice a6 (k + 1) c6', .int .i64 0] 27 := hbS
               clear HO HON HNB hbS hoS
               have HO := Lib.hid ho2
               have HON := Lib.hid hn2
               have HNB := Lib.hid hb2
               clear ho2 hn2 hb2))
          go_roundw
          case rel => exact ⟨k + 1, _, by omega, by go_num, HNB, HO, HON⟩
          case measure => first | (simp [intOf]; done) | (simp [intOf]; omega)
        · have f5 : ((k:Int) == (i:Int)) = false := by simp; omega
          rw [if_neg hki] at hsn
          have HSN := Lib.hid hsn
          clear hsn
          clear hki
          go_upto_region 17 with (fail)
          have nb2 := HNB.out.ext XQ.out
          have ho2 := owns_ext HO.out XQ.out
          have hn2 := HON.out.then (Only.of_ext (S := fun _ => False) XQ.out) (fun _ _ h => h.elim)
          have q5 := nb2.cell
          have q6 := QB.out.cell
          clear HNB HO HON
          have HNB := Lib.hid nb2
          have HO := Lib.hid ho2
          have HON := Lib.hid hn2
          clear nb2 ho2 hn2
          go_wp2_with (first
            | (at_builtin
               refine wpList_app (n := k) (m := 1) tUnitsR rfl rfl (v := .slice a5 k c5) rfl (owns_ext HO.out (ext_lit _ _ _)) rfl (Src.lit _ [.bool uo, .bool ut, .bool uc, .bool false, .int .i64 ui] 1 5 rfl 98 1) (by simp [Value.oneCell']) (by have := HL.out; omega) (Nat.le_trans HON.out.size (by simp)) ?_
               rintro v' w12 t1 t2 t3
               have xt := (HON.out.then (Only.of_ext (S := fun _ => False) (ext_lit w11 _ _)) (fun _ _ h => h.elim)).then (only_grown t2) (fun b hb e => by have h1 := (HO.out.lt b e).1; omega)
               have hbs : ∀ b, (Value.slice a5 k c5).ownBlock = some b → w8.heap.size ≤ b := fun b hb => (HO.out.lt b hb).1
               have nb2 := (HNB.out.ext (ext_lit w11 _ _)).only (only_grown t2) (fun e => by have h1 := hbs _ e; have h2 := NB.out.lt; omega)
               rw [show uL ((brD s i).units.take k) ++ [.bool uo, .bool ut, .bool uc, .bool false, .int .i64 ui] = uL ((brD s i).units.take (k + 1)) from HSN.out.symm] at t1
               obtain ⟨a6, c6', hv6⟩ := row_form t1
               subst hv6
               have hnn : ∀ b, (Value.slice a6 (k + 1) c6').ownBlock = some b → b ≠ nb := fun b hb e => by have h1 := (t1.lt b hb).1; have h2 := NB.out.lt; omega
               clear q5 q6 HO HON HNB
               have HO := Lib.hid t1
               have HON := Lib.hid xt
               have HNB := Lib.hid nb2
               have HNN := Lib.hid hnn
               clear t1 xt nb2 hnn
               clear t2 t3 hbs)
            | (with_reducible refine wpList_setK (b := nb) (i := 2) (v := .slice a6 (k + 1) c6') rfl rfl HNB.out ?_ ?_ ?_ ?_ ?_ ?_ ?_
               · rfl
               · rfl
               · simp
               · kernel_rfl
               · rfl
               · rfl
               rintro wS hbS hoS
               have ho2 := owns_only HO.out hoS HNN.out
               have hn2 := HON.out.tr hoS
               have hb2 : Blk wS nb #[.int .i64 0, .bool fo, .slice a6 (k + 1) c6', .int .i64 0] 27 := hbS
               clear HO HON HNB hbS hoS
               have HO := Lib.hid ho2
               have HON := Lib.hid hn2
               have HNB := Lib.hid hb2
               clear ho2 hn2 hb2))
          go_roundw
          case rel => exact ⟨k + 1, _, by omega, by go_num, HNB, HO, HON⟩
          case measure => first | (simp [intOf]; done) | (simp [intOf]; omega)
      · have i6 : decide ((k:Int) < (n:Int)) = false := decide_eq_false (by omega)
        obtain rfl : n = k := by omega
        have ho := HO.out
        rw [List.take_of_length_le (by rw [HBL.out]; exact Nat.le_refl _)] at ho
        have x2 := X1.out.then_only HON.out (fun b (e : b = nb) => by rw [e]; exact LN.out)
        have rb2 := RB.out.only HON.out (fun e => HNR.out e.symm)
        have pb2 := PB.out.only HON.out (fun e => HNX.out e.symm)
        have lr3 : rb < w8.heap.size := RB.out.lt
        clear HO X1 RB PB
        have HO := Lib.hid ho
        have X1 := Lib.hid x2
        have RB := Lib.hid rb2
        have PB := Lib.hid pb2
        have LR3 := Lib.hid lr3
        clear ho x2 rb2 pb2 lr3
        go_upto_region 19 with (fail)
        have xd : Ext wr wr.drew := (Below.refl _ wr).drew
        refine wp_region_K (fun wx => (∀ j, wx.cell? ⟨nb, j, none⟩ = (#[.int .i64 0, .bool fo, .slice a5 n c5, .int .i64 0] : Array Value)[j]?) ∧ (∀ j, wx.cell? ⟨xb, j, none⟩ = (#[.slice aj p.jam.length cj, .int .i64 p.warm, .int .i64 p.tail, .int .i64 p.dirt] : Array Value)[j]?) ∧ (∀ j, wx.cell? ⟨sb, j, none⟩ = (#[.int .i64 dr, .bool fo, .slice (some ⟨ub, uo, none⟩) n c, .int .i64 s.fresh] : Array Value)[j]?)) 9 (by kernel_rfl) ⟨(HNB.out.ext xd).cell, (PB.out.ext xd).cell, (SB5.out.ext xd).cell⟩ (fun hHeld => ?_)
        have x3 := X1.out.tr xd
        have rb3 := RB.out.ext xd
        have ho3 := owns_ext HO.out xd
        have nb3 := HNB.out.ext xd
        have pb3 := PB.out.ext xd
        have sb3 := SB5.out.ext xd
        clear X1 RB HO HNB PB SB5
        generalize wr.drew = wA at *
        have X1 := Lib.hid x3
        have RB := Lib.hid rb3
        have HO := Lib.hid ho3
        have HNB := Lib.hid nb3
        have PB := Lib.hid pb3
        have SB5 := Lib.hid sb3
        clear x3 rb3 ho3 nb3 pb3 sb3
        refine wpAnyK_takeL (i := 0) (v := ?_) rfl (by kernel_rfl) (by kernel_rfl) (by kernel_rfl) (by kernel_rfl) (fun _ _ _ h => h) (Or.inl ⟨by rfl, ?_⟩) hHeld ?_
        rotate_left
        · intro w hSw; (try dsimp only at hSw); go_simp; (try with_reducible rfl)
        try simp only [Act.put, List.setIfInBounds_toArray, List.set_cons_zero, List.set_cons_succ]
        refine wpAnyK_takeL (i := 1) (v := ?_) rfl (by kernel_rfl) (by kernel_rfl) (by kernel_rfl) (by kernel_rfl) (fun _ _ _ h => h) (Or.inl ⟨by rfl, ?_⟩) hHeld ?_
        rotate_left
        · intro w hSw; (try dsimp only at hSw); go_simp; (try with_reducible rfl)
        try simp only [Act.put, List.setIfInBounds_toArray, List.set_cons_zero, List.set_cons_succ]
        refine wpAnyK_takeL (i := 2) (v := ?_) rfl (by kernel_rfl) (by kernel_rfl) (by kernel_rfl) (by kernel_rfl) (fun _ _ _ h => h) (Or.inl ⟨by rfl, ?_⟩) hHeld ?_
        rotate_left
        · intro w hSw; (try dsimp only at hSw); go_simp; (try with_reducible rfl)
        try simp only [Act.put, List.setIfInBounds_toArray, List.set_cons_zero, List.set_cons_succ]
        refine wpAnyK_takeL (i := 3) (v := ?_) rfl (by kernel_rfl) (by kernel_rfl) (by kernel_rfl) (by kernel_rfl) (fun _ _ _ h => h) (Or.inl ⟨by rfl, ?_⟩) hHeld ?_
        rotate_left
        · intro w hSw; (try dsimp only at hSw); go_simp; (try with_reducible rfl)
        try simp only [Act.put, List.setIfInBounds_toArray, List.set_cons_zero, List.set_cons_succ]
        refine wpAnyK_takeL (i := 4) (v := ?_) rfl (by kernel_rfl) (by kernel_rfl) (by kernel_rfl) (by kernel_rfl) (fun _ _ _ h => h) (Or.inl ⟨by rfl, ?_⟩) hHeld ?_
        rotate_left
        · intro w hSw; (try dsimp only at hSw); go_simp; (try with_reducible rfl)
        try simp only [Act.put, List.setIfInBounds_toArray, List.set_cons_zero, List.set_cons_succ]
        refine wpAnyK_takeL (i := 5) (v := ?_) rfl (by kernel_rfl) (by kernel_rfl) (by kernel_rfl) (by kernel_rfl) (fun _ _ _ h => h) (Or.inl ⟨by rfl, ?_⟩) hHeld ?_
        rotate_left
        · intro w hSw; (try dsimp only at hSw); go_simp; (try with_reducible rfl)
        try simp only [Act.put, List.setIfInBounds_toArray, List.set_cons_zero, List.set_cons_succ]
        refine wpAnyK_ready (rs := [6]) (by kernel_rfl) (by simp) ?_
        refine AllReadyK.consL (i := 6) rfl (fun K hK => ?_) ?_
        · refine step_storeK (cells := #[.int .i64 0, .bool fo, .slice a5 n c5, .int .i64 0]) rfl rfl RB.out rfl rfl (by kernel_rfl) rfl (by simp [Value.oneCell']) ?_
          intro wz hb ho
          have k0 := hb.cell
          have x2 := X1.out.then_only ho (fun k (e : k = rb) => by rw [e]; exact LR.out)
          have ho2 := owns_only HO.out ho (fun b hb (e : b = rb) => by have h1 := (HO.out.lt b hb).1; have h2 := LR3.out; omega)
          have nb2 := HNB.out.only ho HNR.out
          have pb2 := PB.out.only ho (fun e => absurd (blk_ty PB.out (e ▸ RB.out)) (by decide))
          have sb2 := SB5.out.only ho HRS.out
          clear X1 HO HNB PB SB5 RB ho hb
          have X1 := Lib.hid x2
          have HO := Lib.hid ho2
          have HNB := Lib.hid nb2
          have PB := Lib.hid pb2
          have SB5 := Lib.hid sb2
          clear x2 ho2 nb2 pb2 sb2
          refine hK.out _ _ (fun _ => ⟨HNB.out.cell, PB.out.cell, SB5.out.cell⟩) (fun hHeld2 => ?_)
          clear hK K
          try clear hHeld
          have hHeld := hHeld2 (by decide)
          clear hHeld2
          try simp only [Act.put, List.setIfInBounds_toArray, List.set_cons_zero, List.set_cons_succ]
          refine wpAnyK_ready (rs := [7]) (by kernel_rfl) (by simp) ?_
          refine AllReadyK.consL (i := 7) rfl (fun K hK => ?_) ?_
          · go_simp
            refine hK.out _ _ (fun _ => ⟨HNB.out.cell, PB.out.cell, SB5.out.cell⟩) (fun hHeld2 => ?_)
            clear hK K
            try clear hHeld
            have hHeld := hHeld2 (by decide)
            clear hHeld2
            try simp only [Act.put, List.setIfInBounds_toArray, List.set_cons_zero, List.set_cons_succ]
            refine wpAnyK_ready (rs := [8]) (by kernel_rfl) (by simp) ?_
            refine AllReadyK.consL (i := 8) rfl (fun K hK => ?_) ?_
            · go_simp
              refine hK.out _ _ (fun _ => ⟨HNB.out.cell, PB.out.cell, SB5.out.cell⟩) (fun hHeld2 => ?_)
              clear hK K
              try clear hHeld
              have hHeld := hHeld2 (by decide)
              clear hHeld2
              try simp only [Act.put, List.setIfInBounds_toArray, List.set_cons_zero, List.set_cons_succ]
              refine wpAnyK_done (by kernel_rfl) ?_ _
              go_wp2
              refine bodyPost_ret (v := .tuple #[.agg #[.int .i64 0, .bool fo, .slice a5 n c5, .int .i64 0], .int .i64 (min p.tail s.fresh), .int .i64 0]) (by simp [results, Try.results37, go_sem, k0]) rfl ?_
              have hbd : brD s i = ⟨0, fo, (brD s i).units, 0⟩ := by unfold brD; rw [← HFO.out]
              refine ⟨.slice a5 n c5, by rw [HB0.out, HS1.out, HS2.out, hbd] <;> rfl, ?_, X1.out, fun b hb => Nat.le_trans LW.out (HO.out.lt b hb).1⟩
              rw [HS1.out]
              exact UnIn.of_owns (by rw [HBL.out]; exact HO.out) (by rw [HBL.out]; have := HL.out; omega)
            · exact AllReadyK.nil
          · exact AllReadyK.nil
        · exact AllReadyK.nil
  · have f1 : (e1 != 0) = true := by simp [h1]
    have f2 : (e1 == 0) = false := by simp [h1]
    have hb1 : brErr p s x = e1 := by unfold brErr; rw [HE1.out, if_pos h1]
    have hs1 : bkS p s x = zD := by unfold bkS; rw [if_neg (by rw [hb1]; exact h1)]
    have hs2 : bkN p s x = 0 := by unfold bkN; rw [if_neg (by rw [hb1]; exact h1)]
    have HB1 := Lib.hid hb1
    have HS1 := Lib.hid hs1
    have HS2 := Lib.hid hs2
    clear hb1 hs1 hs2
    go_wp2_with (first
      | (with_reducible refine wpList_storeK (ty := 27) (cells := #[.int .i64 0, .bool false, .slice none 0 0, .int .i64 0]) rfl rfl RB.out ?_ ?_ ?_ ?_ ?_ ?_
         · rfl
         · rfl
         · kernel_rfl
         · rfl
         · simp [Value.oneCell']
         rintro w7 hb7 ho7
         have k0 := hb7.cell
         have x2 := X1.out.then_only ho7 (fun k (e : k = rb) => by rw [e]; exact LR.out)
         clear X1 RB ho7 hb7
         have X1 := Lib.hid x2
         clear x2)
    )
    refine bodyPost_ret (v := .tuple #[sZ, .int .i64 0, .int .i64 e1]) (by simp [results, Try.results37, go_sem, k0, sZ]) rfl ?_
    exact ⟨.slice none 0 0, by rw [HB1.out, HS1.out, HS2.out] <;> rfl, by rw [HS1.out]; exact UnIn.nil _, X1.out, fun b hb => by cases hb⟩
end Go.Proofs.Ytojobdffnnibaaa

/- PressActs: what the walk asks of each function, in one form. -/
namespace Go.Proofs.Ytojobdffnnibaaa
open Go.RowKit
set_option linter.unusedVariables false
set_option linter.unusedSimpArgs false

/-- An answer: a state whose towers lie in a row of the call's own, and an error. -/
def AnsO (w : World) (S : StD) (E : Int) (e : Ending) (w' : World) : Prop :=
  ∃ v, e = .returned (.tuple #[sV v S, .int .i64 E]) ∧ UnIn w' v S.units ∧ w'.ownsRow w.heap.size 50 5 v S.units.length (uL S.units) ∧ Ext w w'
def AnsO3 (w : World) (S : StD) (N E : Int) (e : Ending) (w' : World) : Prop :=
  ∃ v, e = .returned (.tuple #[sV v S, .int .i64 N, .int .i64 E]) ∧ UnIn w' v S.units ∧ w'.ownsRow w.heap.size 50 5 v S.units.length (uL S.units) ∧ Ext w w'
theorem begin_own (p : PressD) (vj : Value) (w : World) (hj : Truths w vj p.jam) :
    Calls Try.prog 20 #[pV vj p] w (AnsO w (beginS p) (pErr p)) :=
  (begin_any p vj w hj).mono fun e w' h => by
    rcases h with ⟨h0, rfl, hx⟩ | ⟨h0, v, rfl, ho, hx⟩
    · have e1 : beginS p = zD := by unfold beginS; rw [if_neg h0]
      exact ⟨.slice none 0 0, by rw [e1] <;> rfl, by rw [e1]; exact UnIn.nil _, by rw [e1]; exact World.ownsRow_nil _ _ _ _, hx⟩
    · have e1 : beginS p = beginD p := by unfold beginS; rw [if_pos h0]
      have e2 : (beginD p).units.length = p.jam.length := by simp [beginD]
      exact ⟨v, by rw [e1, h0], by rw [e1]; exact UnIn.of_owns (by rw [e2]; exact ho) (by rw [e2]; have := hj.1; rw [List.length_map] at this; exact this), by rw [e1, e2]; exact ho, hx⟩
theorem program_own (p : PressD) (s : StD) (l : List (Int × Int)) (vj vu vl : Value) (w : World) (hj : Truths w vj p.jam) (hu : UnIn w vu s.units) (hl : s.units.length ≤ 1000000) (hv : AcIn w vl l) (hk : ∀ a ∈ l, I64 a.1) :
    Calls Try.prog 33 #[pV vj p, sV vu s, vl] w (AnsO3 w (pgS p s l) (pgN p s l) (pgE p s l)) :=
  (program_any p s l vj vu vl w hj hu hl hv hk).mono fun e w' h => by
    rcases h with ⟨h0, rfl, hx⟩ | ⟨h0, v, rfl, ho, hx⟩
    · have e1 : pgS p s l = zD := by unfold pgS; rw [if_pos h0]
      have e2 : pgN p s l = 0 := by unfold pgN; rw [if_pos h0]
      have e3 : pgE p s l = pgErr p s l := by unfold pgE; rw [if_pos h0]
      exact ⟨.slice none 0 0, by rw [e1, e2, e3] <;> rfl, by rw [e1]; exact UnIn.nil _, by rw [e1]; exact World.ownsRow_nil _ _ _ _, hx⟩
    · have e1 : pgS p s l = (progR p s 0 l).1 := by unfold pgS; rw [if_neg (by rw [h0]; simp)]
      have e2 : pgN p s l = (progR p s 0 l).2.1 := by unfold pgN; rw [if_neg (by rw [h0]; simp)]
      have e3 : pgE p s l = (progR p s 0 l).2.2 := by unfold pgE; rw [if_neg (by rw [h0]; simp)]
      have e4 := progR_units p l s 0
      exact ⟨v, by rw [e1, e2, e3], by rw [e1]; exact UnIn.of_owns (by rw [e4]; exact ho) (by rw [e4]; omega), by rw [e1, e4]; exact ho, hx⟩
theorem break_own (p : PressD) (s : StD) (x : Int) (vj vu : Value) (w : World) (hj : Truths w vj p.jam) (hu : UnIn w vu s.units) (hl : s.units.length ≤ 1000000) (hx : I64 x) :
    Calls Try.prog 21 #[pV vj p, sV vu s, .int .i64 x] w (AnsO3 w (bkS p s x) (bkN p s x) (brErr p s x)) :=
  (break_any p s x vj vu w hj hu hl hx).mono fun e w' h => by
    rcases h with ⟨h0, rfl, hx⟩ | ⟨h0, v, rfl, ho, hx⟩
    · have e1 : bkS p s x = zD := by unfold bkS; rw [if_neg h0]
      have e2 : bkN p s x = 0 := by unfold bkN; rw [if_neg h0]
      exact ⟨.slice none 0 0, by rw [e1, e2] <;> rfl, by rw [e1]; exact UnIn.nil _, by rw [e1]; exact World.ownsRow_nil _ _ _ _, hx⟩
    · have e1 : bkS p s x = brD s x.toNat := by unfold bkS; rw [if_pos h0]
      have e2 : bkN p s x = min p.tail s.fresh := by unfold bkN; rw [if_pos h0]
      exact ⟨v, by rw [e1, e2, h0], by rw [e1]; exact UnIn.of_owns (by rw [brD_len]; exact ho) (by rw [brD_len]; omega), by rw [e1, brD_len]; exact ho, hx⟩
theorem units_small {p : PressD} {s : StD} {k x : Int} (hl : s.units.length ≤ 1000000) : (doS p s k x).units.length ≤ 1000000 := by
  unfold doS
  split
  · unfold doD
    repeat' split
    all_goals (try exact hl)
    dsimp only
    rw [List.length_set]; exact hl
  · exact Nat.zero_le _
theorem do_own' (p : PressD) (s : StD) (k x : Int) (vj vu : Value) (w : World) (hj : Truths w vj p.jam) (hu : UnIn w vu s.units) (hl : s.units.length ≤ 1000000) (hk : I64 k) :
    Calls Try.prog 22 #[pV vj p, sV vu s, .agg #[.int .i64 k, .int .i64 x]] w (AnsO w (doS p s k x) (doErr p s k x)) :=
  (do_own p s k x vj vu w hj hu hl hk).mono fun e w' ⟨v, h1, h2, h3⟩ => ⟨v, h1, UnIn.of_owns h2 (by have := units_small (p := p) (k := k) (x := x) hl; omega), h2, h3⟩
/-- An empty row bears any store. -/
theorem UnIn.only0 {w w' : World} {v : Value} {us : List UnitD} {S : Nat → Prop} (h : UnIn w v us) (k : Only S w w') (hs : 0 < us.length → ∀ b, v.ownBlock = some b → ¬ S b) : UnIn w' v us := by
  rcases Nat.eq_zero_or_pos us.length with h0 | h0
  · obtain ⟨h1, a, c, h2, h3, _⟩ := h
    exact ⟨h1, a, c, h2, h3, fun h => by omega⟩
  · exact h.only k (hs h0)
/-- A row to be written into: what is asked of it is that it lies there. -/
theorem uL_bool (us : List UnitD) (j : Nat) (h : j < us.length) : ∃ b, (uL us)[j * 5 + 2]? = some (.bool b) := ⟨us[j].cl, by rw [uL_get us j 2 h (by omega)]; rfl⟩
theorem bkS_small {p : PressD} {s : StD} {x : Int} (hl : s.units.length ≤ 1000000) : (bkS p s x).units.length ≤ 1000000 := by
  unfold bkS
  split
  · rw [brD_len]; exact hl
  · exact Nat.zero_le _
end Go.Proofs.Ytojobdffnnibaaa
