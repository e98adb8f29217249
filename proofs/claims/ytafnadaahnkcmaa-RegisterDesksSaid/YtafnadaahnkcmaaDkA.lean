/- RegisterDesks: the reference's reading. -/
import Derived.Test.YtafnadaahnkcmaaDkP
import Derived.Test.YtafnadaahnkcmaaRefM
namespace Go.Proofs.Ytafnadaahnkcmaa
open Go.RowKit
set_option linter.unusedVariables false
set_option linter.unusedSimpArgs false

/-- What the reference's reading gives. -/
def RefReadPost (R : Nat → Prop) (w : World) (d : DeskD) (vp vl vc : Value) (seen : List Int) (e : Ending) (w' : World) : Prop :=
  Ext w w' ∧ ((readErr d seen ≠ 0 ∧ e = .returned (.tuple #[refD vp vl d.win d.limit vc, cpV false 0 (.slice none 0 0) (.slice none 0 0), .int .i64 (readErr d seen)])) ∨
   (readErr d seen = 0 ∧ ∃ ve vm vc', e = .returned (.tuple #[refD vp vl d.win d.limit vc', cpV (rC d seen).good (rC d seen).shift ve vm, .int .i64 (rCode d seen)]) ∧
     Ints w' ve (rErrs d seen d.n) ∧ Ints w' vm (rMovs d seen d.n) ∧ CpsIn (fun b => R b ∨ (w.heap.size ≤ b ∧ b < w'.heap.size)) w' vc' (d.copies ++ [rC d seen]) ∧ ∀ b, ve.ownBlock = some b ∨ vm.ownBlock = some b → w.heap.size ≤ b ∧ b < w'.heap.size))

set_option maxRecDepth 100000 in
set_option maxHeartbeats 8000000 in
theorem refRead_any (R : Nat → Prop) (d : DeskD) (vp vl vc : Value) (seen : List Int) (as_ : Option Addr) (cs : Nat) (w : World) (hok : DOk d) (hq : QLast d) (hp : Ints w vp d.pat) (hl : LoopsIn w vl d.loops) (hc : CpsIn R w vc d.copies) (hs : Ints w (.slice as_ seen.length cs) seen) (hsb : ∀ x ∈ seen, I64 x)
    (hcp : d.copies.length < 5000) (hml : ∀ i, i < d.copies.length → (d.copy i).moves.length = d.n) (hmb : ∀ i, ∀ y ∈ mvs d i, -10000 ≤ y ∧ y ≤ 10000) :
    Calls Try.prog 26 #[refD vp vl d.win d.limit vc, .slice as_ seen.length cs] w (RefReadPost R w d vp vl vc seen) := by
  obtain ⟨ap, cpp, rfl, HP⟩ := hp.form
  obtain ⟨av, cv, rfl, hac, hcc⟩ := hc
  obtain ⟨_, al, cl, rfl, hlc⟩ := hl
  unfold refD
  have HSRC := Lib.hid (CpsIn.src (R := R) ⟨av, cv, rfl, hac, hcc⟩)
  clear hac
  have d5 : decide ((5000:Int) ≤ (d.copies.length:Int)) = false := decide_eq_false (by omega)
  have HCC := Lib.hid hcc
  have HLC := Lib.hid hlc
  have HOK := Lib.hid hok
  have HQL := Lib.hid hq
  have HSB := Lib.hid hsb
  have HML := Lib.hid hml
  have HMB := Lib.hid hmb
  have HS := Lib.hid hs
  clear hcc hlc hok hq hsb hml hmb hs
  clear hp
  go_enter Try.func26, Try.ntmps26
  go_upto_region 3 with (first
    | (with_reducible refine wpList_boxA (t := 71) (cs := #[.slice ap d.pat.length cpp, .slice al d.loops.length cl, .int .i64 d.win, .int .i64 d.limit, .slice av d.copies.length cv]) rfl rfl rfl ?_
       rintro bd w1 hb1 hx1 hl1
       have c1 := hb1.cell
       have BD := Lib.hid hb1
       have X1 := Lib.hid hx1
       have L1 := Lib.hid hl1
       clear hb1 hx1 hl1)
    | (with_reducible refine wpList_allocA (t := 71) rfl rfl Try.zeroValue71 ?_
       rintro rd w2 hb2 hx2 hl2
       have b12 := BD.out.ext hx2
       have c2 := b12.cell
       have hdl : bd < rd := Nat.lt_of_lt_of_le BD.out.lt hl2
       have x2 := X1.out.tr hx2
       have RD := Lib.hid hb2
       have B12 := Lib.hid b12
       have X2 := Lib.hid x2
       clear hb2 b12 x2
       clear c1 hx2)
    | (with_reducible refine wpList_allocA (t := 74) rfl rfl Try.zeroValue74 ?_
       rintro rc w3 hb3 hx3 hl3
       have b13 := B12.out.ext hx3
       have c3 := b13.cell
       have rd3 := RD.out.ext hx3
       have hrl : rd < rc := Nat.lt_of_lt_of_le RD.out.lt hl3
       have x3 := X2.out.tr hx3
       have RC := Lib.hid hb3
       have B13 := Lib.hid b13
       have RD3 := Lib.hid rd3
       have X3 := Lib.hid x3
       clear hb3 b13 rd3 x3
       clear c2 hx3))
  have hgd := HOK.out.good
  have hpb : ∀ x ∈ d.pat, I64 x := fun x hx => by
    obtain ⟨i, hi, rfl⟩ := List.mem_iff_getElem.1 hx
    have := hgd.2 i hi
    unfold I64; omega
  have hwb : I64 d.win := by have := hgd.1; unfold I64; omega
  have HMT := Lib.hid (refMatch_any d.pat seen ap as_ cpp cs d.win w3 (HP.out.ext X3.out) (HS.out.ext X3.out) hpb hwb HSB.out)
  have hme := matchErr_read d seen HOK.out
  have hp1 := HOK.out.p1
  have hp2 := HOK.out.p2
  have hbw := BD.out.lt
  have hbw0 : w.heap.size ≤ bd := L1.out
  clear hpb hwb hgd
  obtain ⟨er, her⟩ : ∃ er, er = readErr d seen := ⟨_, rfl⟩
  by_cases he0 : er = 0
  · obtain ⟨sh1, cn1, hbp, ⟨hb1, hb2⟩, hbc, hmost⟩ := best_pair d.pat seen d.win
    have hsbd : ∀ x ∈ seen, -100000 ≤ x ∧ x ≤ 200000 := fun x hx => by
      have hso : SeenOk seen := by
        have h := her.symm.trans he0
        unfold readErr at h
        by_cases h1 : 40 < seen.length
        · rw [if_pos h1] at h; omega
        · rw [if_neg h1] at h
          by_cases h2 : SeenOk seen
          · exact h2
          · rw [if_pos h2] at h; omega
      obtain ⟨i, hi, rfl⟩ := List.mem_iff_getElem.1 hx
      have := hso i hi; omega
    obtain ⟨fl, hfl⟩ : ∃ fl, fitL d.pat seen d.win sh1 = fl := ⟨_, rfl⟩
    have hrf : rF d seen = fl := by unfold rF rB; rw [hbp]; exact hfl
    have hfll : fl.length = d.pat.length := by rw [← hfl]; simp [fitL]
    have hfb : ∀ i, i < d.pat.length → gD fl i = lostN ∨ (-100000 ≤ gD fl i ∧ gD fl i ≤ 200000) := fun i hi => by rw [← hfl]; exact fit_bd hsbd i hi
    have HM : Hid (Calls Try.prog 12 #[.slice ap d.pat.length cpp, .int .i64 d.win, .slice as_ seen.length cs] w3 fun e w' => ∃ fg fc, e = .returned (.tuple #[.agg #[.int .i64 sh1, .int .i64 cn1, .slice (some ⟨fg, 0, none⟩) d.pat.length fc], .int .i64 0]) ∧
        (∀ i, i < d.pat.length → w'.cell? ⟨fg, i, none⟩ = some (.int .i64 (gD fl i))) ∧ w3.heap.size ≤ fg ∧ Ext w3 w') := HMT.out.mono fun e w' ⟨h, hx⟩ => by
      rcases h with ⟨e2, h1, h2, rfl⟩ | ⟨h1, v, rfl, hown⟩
      · rw [hme, ← her] at h1; omega
      · rw [hbp] at hown ⊢
        obtain ⟨fg, fc, rfl, hcc⟩ := owns_pos hown (by omega)
        refine ⟨fg, fc, rfl, fun i hi => ?_, (hown.lt fg rfl).1, hx⟩
        have hi' : i < fl.length := by omega
        exact hcc i _ (by rw [hfl, List.getElem?_map, List.getElem?_eq_getElem hi', ← gD_lt hi']; rfl)
    have HER := Lib.hid (her.symm.trans he0)
    have hcb := cntL_bd (fitL d.pat seen d.win sh1)
    rw [hfl, hfll, ← hfl, ← hbc] at hcb
    obtain ⟨hcb1, hcb2⟩ := hcb
    have HSBD := Lib.hid hsbd
    have HFB := Lib.hid hfb
    have HRF := Lib.hid hrf
    have HBP := Lib.hid hbp
    have HBC := Lib.hid hbc
    clear hsbd hfb hrf hbp hbc
    clear her he0 hfl hmost hme HMT d5 hb1 hb2
    go_upto_region 4 with (first
      | (go_at_call 12
         refine HM.out.mono ?_
         rintro e w4 ⟨fg, fc, rfl, hfc, hfg1, hx4⟩
         have hfgl : fg < w4.heap.size := World.block_lt_of_cell? w4 _ (hfc 0 (by omega))
         have hfg0 : w.heap.size ≤ fg := Nat.le_trans X3.out.size hfg1
         have b14 := B13.out.ext hx4
         have rd4 := RD3.out.ext hx4
         have rc4 := RC.out.ext hx4
         have x4 := X3.out.tr hx4
         have HFC := Lib.hid hfc
         have B14 := Lib.hid b14
         have RD4 := Lib.hid rd4
         have RC4 := Lib.hid rc4
         have X4 := Lib.hid x4
         clear hfc b14 rd4 rc4 x4
         clear hx4 c3)
      | (with_reducible refine wpList_allocA (t := 30) rfl rfl Try.zeroValue30 ?_
         rintro fb w5 hb5 hx5 hl5
         have hfbw : w.heap.size ≤ fb := Nat.le_trans X4.out.size hl5
         have hfbl : w4.heap.size ≤ fb := hl5
         have FB := Lib.hid hb5
         have G5 := Lib.hid hx5
         clear hb5 hx5)
      | (with_reducible refine wpList_storeK (ty := 30) (cells := #[.int .i64 sh1, .int .i64 cn1, .slice (some ⟨fg, 0, none⟩) d.pat.length fc]) rfl rfl FB.out ?_ ?_ ?_ ?_ ?_ ?_
         · rfl
         · rfl
         · kernel_rfl
         · rfl
         · simp [Value.oneCell']
         rintro w6 hb6 ho6
         have hx6 : Ext w4 w6 := G5.out.then_only ho6 (fun k (e : k = fb) => by omega)
         have hfg6 : fg < w6.heap.size := Nat.lt_of_lt_of_le hfgl hx6.size
         have hfc6 : ∀ i, i < d.pat.length → w6.cell? ⟨fg, i, none⟩ = some (.int .i64 (gD fl i)) := fun i hi => hx6.cellSome (HFC.out i hi)
         have b16 := B14.out.ext hx6
         have rd6 := RD4.out.ext hx6
         have rc6 := RC4.out.ext hx6
         have x6 := X4.out.tr hx6
         have c6 := b16.cell
         have c7 := hb6.cell
         clear FB HFC B14 RD4 RC4 X4 B13 RD3 RC RD B12 BD X2 X1
         have FB := Lib.hid hb6
         have HFC := Lib.hid hfc6
         have B16 := Lib.hid b16
         have RD6 := Lib.hid rd6
         have RC6 := Lib.hid rc6
         have X6 := Lib.hid x6
         clear hb6 hfc6 b16 rd6 rc6 x6
         clear G5 ho6 hx6))
    have hl6b := B16.out.lt
    have hl6r := RD6.out.lt
    have hl6c := RC6.out.lt
    have hl6f := FB.out.lt
    go_upto_region 7 with (first
      | (with_reducible refine wpList_allocA (t := 74) rfl rfl Try.zeroValue74 ?_
         rintro cb w8 hb8 hx8 hl8
         have hcl8 : w6.heap.size ≤ cb := hl8
         have c8 := (FB.out.ext hx8).cell
         have c9 := (B16.out.ext hx8).cell
         have CB := Lib.hid hb8
         have G8 := Lib.hid hx8
         clear hb8 hx8)
      | (with_reducible refine wpList_storeK (ty := 74) (cells := #[.bool true, .int .i64 sh1, .slice none 0 0, .slice none 0 0]) rfl rfl CB.out ?_ ?_ ?_ ?_ ?_ ?_
         · rfl
         · rfl
         · kernel_rfl
         · rfl
         · simp [Value.oneCell']
         rintro w9 hb9 ho9
         have hx9 : Ext w6 w9 := G8.out.then_only ho9 (fun k (e : k = cb) => by omega)
         clear CB c8 c9 c6 c7
         have CB := Lib.hid hb9
         have X69 := Lib.hid hx9
         clear hb9 hx9
         clear G8 ho9))
    have hfc9 : ∀ i, i < d.pat.length → w9.cell? ⟨fg, i, none⟩ = some (.int .i64 (gD fl i)) := fun i hi => X69.out.cellSome (HFC.out i hi)
    have b19 := B16.out.ext X69.out
    have fb9 := FB.out.ext X69.out
    have rd9 := RD6.out.ext X69.out
    have rc9 := RC6.out.ext X69.out
    have x9 := X6.out.tr X69.out
    have hcw : w.heap.size ≤ cb := Nat.le_trans X6.out.size hcl8
    clear B16 FB RD6 RC6 HFC X6 X69
    have HFC := Lib.hid hfc9
    have B19 := Lib.hid b19
    have FB := Lib.hid fb9
    have RD9 := Lib.hid rd9
    have RC9 := Lib.hid rc9
    have X9 := Lib.hid x9
    clear hfc9 b19 fb9 rd9 rc9 x9
    obtain ⟨is, his⟩ : ∃ is, is = rIs d seen := ⟨_, rfl⟩
    have hri : is = ((gD fl 0 != lostN) && decide ((d.pat.length:Int) ≤ 2 * cn1)) := by rw [his]; unfold rIs; rw [HRF.out]; unfold rB; rw [HBP.out]
    obtain ⟨ec, hec⟩ : ∃ ec : Int, ec = (if is then 0 else 4) := ⟨_, rfl⟩
    obtain ⟨s0, hs0⟩ : ∃ s0, s0 = (if is then sh1 else 0) := ⟨_, rfl⟩
    have HRI := Lib.hid hri
    have HIS := Lib.hid his
    have HEC := Lib.hid hec
    have HS0 := Lib.hid hs0
    clear hri his hec hs0
    simp only [Act.put, List.setIfInBounds_toArray, List.set_cons_zero, List.set_cons_succ]
    obtain ⟨nis, hnis⟩ : ∃ b, b = !is := ⟨_, rfl⟩
    have HNIS := Lib.hid hnis
    clear hnis
    go_cut [56] (fun s W => s = .bool nis ∧ Hid (W = w9))
    case first =>
      as_aux_lemma =>
        have q0 := HFC.out 0 (by omega)
        obtain ⟨f0, hf0⟩ : ∃ f0, f0 = gD fl 0 := ⟨_, rfl⟩
        have hri := HRI.out
        rw [← hf0] at q0 hri
        have c10 := FB.out.cell
        have c11 := B19.out.cell
        have w1' : IntKind.i64.wrap (cn1 + cn1) = cn1 + cn1 := i64_eq _ (by omega)
        have p0 : 0 < d.pat.length := by omega
        clear hf0
        by_cases hl0 : f0 = lostN
        · have e1 : (f0 == 1000000000) = true := by simpa using hl0
          have e2 : nis = true := by
            have h2 : (f0 != lostN) = false := by simpa using hl0
            rw [h2] at hri
            rw [HNIS.out, hri]; rfl
          have E2 := Lib.hid e2
          clear e2
          clear hl0 hri
          go_wp2
          go_meet
          case rel => exact ⟨by rw [E2.out], rfl⟩
        · have e1 : (f0 == 1000000000) = false := by simpa using hl0
          have e2 : nis = decide (cn1 + cn1 < (d.pat.length:Int)) := by
            have h2 : (f0 != lostN) = true := by simpa using hl0
            rw [h2] at hri
            rw [HNIS.out, hri, Bool.true_and]
            by_cases h3 : (d.pat.length:Int) ≤ 2 * cn1
            · rw [decide_eq_true h3, decide_eq_false (by omega)]; rfl
            · rw [decide_eq_false h3, decide_eq_true (by omega)]; rfl
          have E2 := Lib.hid e2
          clear e2
          clear hl0 hri
          go_wp2
          go_meet
          case rel => exact ⟨by rw [E2.out], rfl⟩
    case rest =>
    obtain ⟨rfl, HWW⟩ := hcut
    obtain rfl := HWW.out
    clear HWW
    obtain ⟨w9, rfl⟩ : ∃ W, W = wc := ⟨wc, rfl⟩
    go_upto_if 56 with (fail)
    go_cut [8] (fun s8 W => s8 = .int .i64 ec ∧ Hid (Ext w W) ∧ Hid (Only (fun b => b = cb) w9 W) ∧ Hid (Blk W cb #[.bool is, .int .i64 s0, .slice none 0 0, .slice none 0 0] 74))
    case first =>
      as_aux_lemma =>
        rename_i hR hK
        cases nis
        · have hg : is = true := by have := HNIS.out; cases is; cases this; rfl
          have e3 : ec = 0 := by rw [HEC.out, hg]; rfl
          have e4 : s0 = sh1 := by rw [HS0.out, hg]; rfl
          have HE3 := Lib.hid e3
          have HE4 := Lib.hid e4
          have HG := Lib.hid hg
          clear e3 e4 hg
          refine wp_cond_false rfl ?_
          refine wp_skip ?_
          refine hK _ _ ?_
          go_meet
          case rel => exact ⟨by rw [HE3.out], X9.out, Only.refl _ _, by rw [HE4.out, HG.out]; exact CB.out⟩
        · have hg : is = false := by have := HNIS.out; cases is; rfl; cases this
          have e3 : ec = 4 := by rw [HEC.out, hg]; rfl
          have e4 : s0 = 0 := by rw [HS0.out, hg]; rfl
          have HE3 := Lib.hid e3
          have HE4 := Lib.hid e4
          have HG := Lib.hid hg
          clear e3 e4 hg
          refine wp_cond_true rfl ?_
          go_wp2_with (first
            | (with_reducible refine wpList_setK (b := cb) (i := 0) (v := .bool false) rfl rfl CB.out ?_ ?_ ?_ ?_ ?_ ?_ ?_
               · rfl
               · rfl
               · simp
               · kernel_rfl
               · rfl
               · simp [Value.oneCell']
               rintro wa hba hoa
               have CBA := Lib.hid hba
               have OA := Lib.hid hoa
               clear hba hoa)
            | (with_reducible refine wpList_setK (b := cb) (i := 1) (v := .int .i64 0) rfl rfl CBA.out ?_ ?_ ?_ ?_ ?_ ?_ ?_
               · rfl
               · rfl
               · simp
               · kernel_rfl
               · rfl
               · simp [Value.oneCell']
               rintro wb hbb hob
               have hox := OA.out.tr hob
               have hxb : Ext w wb := X9.out.then_only hox (fun k (e : k = cb) => by omega)
               have CBB := Lib.hid hbb
               have OB := Lib.hid hox
               have XB := Lib.hid hxb
               clear hbb hox hxb
               clear hob))
          go_meet
          case rel => exact ⟨by rw [HE3.out], XB.out, OB.out, by rw [HE4.out, HG.out]; exact CBB.out⟩
    case rest =>
      as_aux_lemma =>
        obtain ⟨rfl, XE, OE, CE⟩ := hcut
        obtain ⟨we, rfl⟩ : ∃ W, W = wc := ⟨wc, rfl⟩
        have hcl9 : cb < w9.heap.size := CB.out.lt
        have hcl : cb < we.heap.size := CE.out.lt
        have hw9e := OE.out.size
        have hwe : w.heap.size ≤ we.heap.size := XE.out.size
        have hall : ∀ wr, Only (fun b => b = cb ∨ we.heap.size ≤ b) we wr → Ext w wr ∧ Blk wr bd #[.slice ap d.pat.length cpp, .slice al d.loops.length cl, .int .i64 d.win, .int .i64 d.limit, .slice av d.copies.length cv] 71 ∧
            Blk wr fb #[.int .i64 sh1, .int .i64 cn1, .slice (some ⟨fg, 0, none⟩) d.pat.length fc] 30 ∧ (∀ i, i < d.pat.length → wr.cell? ⟨fg, i, none⟩ = some (.int .i64 (gD fl i))) ∧
            Blk wr rd #[.slice none 0 0, .slice none 0 0, .int .i64 0, .int .i64 0, .slice none 0 0] 71 ∧ Blk wr rc #[.bool false, .int .i64 0, .slice none 0 0, .slice none 0 0] 74 := fun wr ho => by
          have h2 : Only (fun b => b = cb ∨ w9.heap.size ≤ b) w9 wr := (OE.out.weak fun b _ e => .inl e).tr (ho.weak fun b _ e => e.elim .inl fun h => .inr (Nat.le_trans hw9e h))
          have no : ∀ b, b < cb → ¬ (b = cb ∨ w9.heap.size ≤ b) := fun b hb e => by rcases e with e | e <;> omega
          exact ⟨XE.out.then_only ho (fun b hb => by rcases hb with hb | hb <;> omega), B19.out.only h2 (no bd (by omega)), FB.out.only h2 (no fb (by omega)), fun i hi => h2.cell (HFC.out i hi) (no fg (by omega)), RD9.out.only h2 (no rd (by omega)), RC9.out.only h2 (no rc (by omega))⟩
        have hlts : bd < we.heap.size ∧ rd < we.heap.size ∧ rc < we.heap.size ∧ bd ≠ cb ∧ rd ≠ cb ∧ rc ≠ cb ∧ rd ≠ rc := ⟨by omega, by omega, by omega, by omega, by omega, by omega, by omega⟩
        have I0 := Lib.hid (RfInv.start (d := d) (seen := seen) CE.out HIS.out)
        have hpn := HOK.out.pn
        have hnl : d.n = d.loops.length := rfl
        rw [hnl] at hpn
        have hcp0 : d.copies.length < 5000 := hcp
        have HALL := Lib.hid hall
        have HLTS := Lib.hid hlts
        have HNL := Lib.hid hnl
        clear hall hlts hnl
        clear B19 FB HFC RD9 RC9 X9 CB OE CE hl6b hl6r hl6c hl6f hcl9 hw9e hfg6
        go_wp2
        go_loopw [10] (fun t wr => ∃ k : Nat, k ≤ d.loops.length ∧ t = .int .i64 k ∧ Hid (∃ g ve vm, RfInv we cb d seen s0 k g ve vm wr)) (fun t _ => d.loops.length - (intOf t).toNat)
        case atStart => exact ⟨0, Nat.zero_le _, rfl, ⟨_, _, _, I0.out⟩⟩
        case round =>
          obtain ⟨k, hk, rfl, HI⟩ := hrel
          clear I0
          obtain ⟨g, ve, vm, hinv⟩ := HI.out
          clear HI
          obtain ⟨a1, c1, hv1⟩ := owns_form hinv.re
          obtain ⟨a2, c2, hv2⟩ := owns_form hinv.rm
          subst hv1 hv2
          obtain ⟨xr, bdr, fbr, fcr, rdr, rcr⟩ := HALL.out wr hinv.only
          have q4 := bdr.cell
          have HINV := Lib.hid hinv
          have XR := Lib.hid xr
          have BDR := Lib.hid bdr
          have FBR := Lib.hid fbr
          have FCR := Lib.hid fcr
          have RDR := Lib.hid rdr
          have RCR := Lib.hid rcr
          clear hinv xr bdr fbr fcr rdr rcr
          by_cases hlt : k < d.loops.length
          · skip
            as_aux_lemma =>
              have q5 := FBR.out.cell
              obtain ⟨at1, hat⟩ : ∃ at1, at1 = gD fl (k + 1) := ⟨_, rfl⟩
              have q6 := FCR.out (k + 1) (by omega)
              rw [← hat] at q6
              have hab := HFB.out (k + 1) (by omega)
              rw [← hat] at hab
              have j3 : k ≤ 12 := by omega
              have j4 : (k:Int) + 1 < (d.pat.length:Int) := by omega
              have j5 : k + 1 < d.pat.length := by omega
              obtain ⟨tt, htt⟩ : ∃ tt, tt = (is && (at1 != 1000000000)) := ⟨_, rfl⟩
              have HAT := Lib.hid hat
              have HAB := Lib.hid hab
              have HTT := Lib.hid htt
              clear hat hab htt
              go_upto_region 15 with (fail)
              go_cut [76] (fun s W => s = .bool tt ∧ Hid (W = wr))
              case first =>
                as_aux_lemma =>
                  by_cases hg : is = true
                  · have e3 : (ec == 0) = true := by rw [HEC.out, hg]; rfl
                    have e4 : tt = (at1 != 1000000000) := by rw [HTT.out, hg]; rfl
                    have HG := Lib.hid hg
                    have E4 := Lib.hid e4
                    clear hg e4
                    go_wp2
                    go_meet
                    case rel => exact ⟨by rw [E4.out], rfl⟩
                  · have hg2 : is = false := by simpa using hg
                    have e3 : (ec == 0) = false := by rw [HEC.out, hg2]; rfl
                    have e4 : tt = false := by rw [HTT.out, hg2]; rfl
                    have HG := Lib.hid hg2
                    have E4 := Lib.hid e4
                    clear hg2 e4
                    clear hg
                    go_wp2
                    go_meet
                    case rel => exact ⟨by rw [E4.out], rfl⟩
              case rest =>
                as_aux_lemma =>
                  obtain ⟨rfl, HWW⟩ := hcut
                  obtain rfl := HWW.out
                  clear HWW
                  obtain ⟨wo, rfl⟩ : ∃ W, W = wc := ⟨wc, rfl⟩
                  obtain ⟨xx, hxx⟩ : ∃ xx, xx = rErr d seen k := ⟨_, rfl⟩
                  obtain ⟨uu, huu⟩ : ∃ uu, uu = rMov d seen k := ⟨_, rfl⟩
                  have hxv : xx = if tt = true then at1 - gD fl 0 - (gD d.pat (k + 1) - gD d.pat 0) else lostN := by
                    rw [hxx, HTT.out, HAT.out]; unfold rErr
                    rw [HRF.out, ← HIS.out]
                    cases is <;> simp
                  have huv : uu = if xx ≠ lostN then clamp (d.loop k).step (-(xx + sumL (d.q k))) else 0 := by rw [huu, hxx]; rfl
                  have HXV := Lib.hid hxv
                  have HXX := Lib.hid hxx
                  have HUV := Lib.hid huv
                  have HUU := Lib.hid huu
                  clear hxv hxx huv huu
                  clear q4 q5
                  go_upto_if 76 with (fail)
                  go_cut [11, 12] (fun s11 s12 W => s11 = .int .i64 xx ∧ s12 = .int .i64 uu ∧ Hid (Ext wo W))
                  case first =>
                    as_aux_lemma =>
                      rename_i hR hK
                      cases tt
                      · have h1 : xx = lostN := by rw [HXV.out]; simp
                        have h2 : uu = 0 := by rw [HUV.out, if_neg (by simp [h1])]
                        have H1 := Lib.hid h1
                        have H2 := Lib.hid h2
                        clear h1 h2
                        refine wp_cond_false rfl ?_
                        refine wp_skip ?_
                        refine hK _ _ ?_
                        go_meet
                        case rel => exact ⟨by rw [H1.out], by rw [H2.out], Below.refl _ _⟩
                      · have h1 : xx = at1 - gD fl 0 - (gD d.pat (k + 1) - gD d.pat 0) := by rw [HXV.out, if_pos rfl]
                        have h3 : is = true ∧ at1 ≠ 1000000000 := and_ne HTT.out.symm
                        have h4 : gD fl 0 ≠ lostN := by rw [← HRF.out]; exact rIs_f0 (HIS.out.symm.trans h3.1)
                        have h5 := (HFB.out 0 (by omega)).resolve_left h4
                        have h6 := HAB.out.resolve_left h3.2
                        have p0 := HOK.out.good.2 0 (by omega)
                        have p1 := HOK.out.good.2 (k + 1) (by omega)
                        rw [← gD_lt (l := d.pat) (k := 0) (by omega)] at p0
                        rw [← gD_lt (l := d.pat) (k := k + 1) (by omega)] at p1
                        obtain ⟨pb, po, rfl, hpc⟩ := Ints.cells (xs := d.pat) HP.out (by omega)
                        have q0 := XR.out.cellSome (hpc 0 (by omega))
                        have q1 := XR.out.cellSome (hpc (k + 1) j5)
                        rw [← gD_lt (l := d.pat) (k := 0) (by omega), Nat.add_zero] at q0
                        rw [← gD_lt (l := d.pat) (k := k + 1) (by omega)] at q1
                        have q2 := FCR.out 0 (by omega)
                        have q4 := BDR.out.cell
                        have q5 := FBR.out.cell
                        obtain ⟨f0, hf0⟩ : ∃ f0, f0 = gD fl 0 := ⟨_, rfl⟩
                        obtain ⟨y0, hy0⟩ : ∃ y0, y0 = gD d.pat 0 := ⟨_, rfl⟩
                        obtain ⟨y1, hy1⟩ : ∃ y1, y1 = gD d.pat (k + 1) := ⟨_, rfl⟩
                        rw [← hf0] at h5 q2 h1
                        rw [← hy0] at p0 q0 h1
                        rw [← hy1] at p1 q1 h1
                        obtain ⟨h51, h52⟩ := h5
                        obtain ⟨h61, h62⟩ := h6
                        obtain ⟨p01, p02, _⟩ := p0
                        obtain ⟨p11, p12, _⟩ := p1
                        have v1' : IntKind.i64.wrap (at1 - y1) = at1 - y1 := i64_eq _ (by omega)
                        have v2' : IntKind.i64.wrap (f0 - y0) = f0 - y0 := i64_eq _ (by omega)
                        have v3' : IntKind.i64.wrap (at1 - y1 - (f0 - y0)) = at1 - y1 - (f0 - y0) := i64_eq _ (by omega)
                        have p0' : 0 < d.pat.length := by omega
                        have hxe : xx = at1 - y1 - (f0 - y0) := by omega
                        have hxb1 : -2000000000 ≤ xx := by omega
                        have hxb2 : xx ≤ 2000000000 := by omega
                        have hxl : xx ≠ lostN := by unfold lostN; omega
                        have hus : uu = clamp (d.loop k).step (-(xx + sumL (d.q k))) := by rw [HUV.out, if_pos hxl]
                        rw [HQL.out.sum k hlt] at hus
                        have HXE := Lib.hid hxe
                        have HXL := Lib.hid hxl
                        have HUS := Lib.hid hus
                        clear hxe hxl hus
                        clear h1 h3 h4 hf0 hy0 hy1 hpc
                        refine wp_cond_true rfl ?_
                        go_upto_region 16 with (fail)
                        go_quiet (fail)
                        have xq : Ext wo (wo.drewN nq) := Ext.of_drewN _ _
                        generalize wo.drewN nq = ws at *
                        clear q0 q1 q2 q4 q5 q6
                        have XQ := Lib.hid xq
                        clear xq
                        go_wp2
                        go_loopw [13, 14] (fun v t wq => ∃ j : Nat, j ≤ d.copies.length ∧ t = .int .i64 j ∧ Hid (wq.ownsRow ws.heap.size 3 1 v j (((mvs d k).take j).map (.int .i64))) ∧ Hid (Ext ws wq)) (fun _ t _ => d.copies.length - (intOf t).toNat)
                        case atStart => exact ⟨0, Nat.zero_le _, rfl, World.ownsRow_nil _ _ _ _, Below.refl _ _⟩
                        case round =>
                          obtain ⟨j, hj, rfl, HV, HXQ⟩ := hrel
                          obtain ⟨a3, c3, rfl⟩ := row_form HV.out
                          have xa := XQ.out.tr HXQ.out
                          have d4 := (BDR.out.ext xa).cell
                          have xw := XR.out.tr xa
                          by_cases hj2 : j < d.copies.length
                          · skip
                            as_aux_lemma =>
                              obtain ⟨cbk, co, rfl, _, es, ms, hcells, hints⟩ := HCC.out (by omega)
                              obtain ⟨x, hx⟩ : ∃ x, x = d.copies.getD j default := ⟨_, rfl⟩
                              have hm := (hints j hj2).1.2
                              have k3 := hcells j 3 (ms j) hj2 (by omega) rfl
                              have hmg := mvs_get d k j hj2
                              have hmlen : x.moves.length = d.loops.length := by rw [hx]; exact HML.out j hj2
                              rw [← hx] at hm hmg
                              obtain ⟨am, cm, hms, HMS⟩ := hm.form
                              rw [hms] at k3
                              obtain ⟨mb, mo, rfl, hmc⟩ := Ints.cells (xs := x.moves) HMS.out (by omega)
                              have k4 := hmc k (by omega)
                              rw [← gD_lt (l := x.moves) (k := k) (by omega)] at k4
                              obtain ⟨y, hy⟩ : ∃ y, y = gD x.moves k := ⟨_, rfl⟩
                              rw [← hy] at k4 hmg
                              have k3' := xw.cellSome k3
                              have k4' := xw.cellSome k4
                              have j6 : k < x.moves.length := by omega
                              have HMG := Lib.hid hmg
                              have XA := Lib.hid xa
                              have XW := Lib.hid xw
                              clear hmg xa xw
                              clear hcells hints hm hms hmc k3 k4 hx hy
                              have hb8 : (j + 1) * 8 ≤ 140737488355328 := by have := hcp0; omega
                              have HB8 := Lib.hid hb8
                              clear hb8
                              go_wp2_with (
                                at_builtin
                                refine wpList_app (n := j) (m := 1) tInts rfl rfl (v := .slice a3 j c3) rfl (owns_ext HV.out (ext_lit _ _ _)) rfl (Src.lit _ [.int .i64 y] 1 1 rfl 3 1) (by simp [Value.oneCell']) HB8.out (Nat.le_trans HXQ.out.size (by simp)) ?_
                                rintro v' w10 t1 t2 t3
                                have xt := (HXQ.out.tr (ext_lit _ _ _)).then_only (only_grown t2) (fun b hb => (HV.out.lt b hb).1)
                                have T1 := Lib.hid t1
                                have XT := Lib.hid xt
                                clear t1 xt
                                clear t2 t3)
                              go_roundw
                              case rel => exact ⟨j + 1, by omega, by go_num, by rw [← take_snoc _ _ (by rw [mvs_len]; exact hj2), HMG.out]; exact T1.out, XT.out⟩
                              case measure => first | (simp [intOf]; done) | (simp [intOf]; omega)
                          · obtain rfl : j = d.copies.length := by omega
                            as_aux_lemma =>
                              obtain ⟨lb, lo, rfl, hlcc⟩ := HLC.out (by omega)
                              obtain ⟨ld, ln, lbl, ls, hlk⟩ : ∃ a b c e, d.loop k = ⟨a, b, c, e⟩ := ⟨_, _, _, _, rfl⟩
                              have hlg : d.loops[k] = ⟨ld, ln, lbl, ls⟩ := by rw [← hlk]; simp [DeskD.loop, List.getD, hlt]
                              have hcx := hlcc k hlt
                              rw [hlg] at hcx
                              have l0 : wr.cell? ⟨lb, lo + k * 4, none⟩ = some (.int .i64 ld) := xw.cellSome (hcx 0 (by omega))
                              have l1 : wr.cell? ⟨lb, lo + k * 4 + 1, none⟩ = some (.int .i64 ln) := xw.cellSome (hcx 1 (by omega))
                              have l2 : wr.cell? ⟨lb, lo + k * 4 + 2, none⟩ = some (.int .i64 lbl) := xw.cellSome (hcx 2 (by omega))
                              have l3 : wr.cell? ⟨lb, lo + k * 4 + 3, none⟩ = some (.int .i64 ls) := xw.cellSome (hcx 3 (by omega))
                              have hlo := HOK.out.ok k hlt
                              rw [hlk] at hlo
                              have hml := mvs_len d k
                              have htk : (mvs d k).take d.copies.length = mvs d k := by rw [← hml]; exact List.take_length
                              have hvi : Ints wr (.slice a3 d.copies.length c3) (mvs d k) := by have := HV.out; rw [htk] at this; exact Sl.of_owns this
                              have hdc := decided_any ⟨ld, ln, lbl, ls⟩ (mvs d k) _ xx wr hlo hvi (HMB.out k) ⟨hxb1, hxb2⟩ (by omega)
                              have hus := HUS.out
                              rw [hlk, hml] at hus
                              rw [hml] at hdc
                              dsimp only at hus
                              unfold Loop.val at hdc
                              dsimp only at hdc
                              rw [← hus] at hdc
                              rw [HXE.out] at hdc
                              have HDC := Lib.hid hdc
                              have XA := Lib.hid xa
                              clear hdc xa
                              clear hlcc hcx hlo hvi hus hlg
                              go_wp2_with (
                                go_at_call 46
                                refine HDC.out.mono ?_
                                rintro e w11 ⟨rfl, hx11⟩
                                have X11 := Lib.hid hx11
                                clear hx11)
                              go_meet
                              case rel => exact ⟨by rw [HXE.out], rfl, XA.out.tr X11.out⟩
                  case rest =>
                    as_aux_lemma =>
                      obtain ⟨rfl, rfl, HXW⟩ := hcut
                      obtain ⟨wq, rfl⟩ : ∃ W, W = wc := ⟨wc, rfl⟩
                      have m0 := (HINV.out.mid hcl).ext HXW.out
                      have b4 := (BDR.out.ext HXW.out).cell
                      have hlim := HOK.out.lim
                      obtain ⟨lim1, lim2⟩ := hlim
                      have MID := Lib.hid m0
                      clear m0
                      clear q6
                      have hcle : we.heap.size ≤ wq.heap.size := Nat.le_trans HINV.out.only.size HXW.out.size
                      by_cases h1 : xx = lostN
                      · have e1 : (xx == 1000000000) = true := by simpa using h1
                        obtain ⟨gq, hgq⟩ : ∃ b, b = false := ⟨_, rfl⟩
                        have HNO := Lib.hid (rIn_lost HXX.out h1)
                        clear h1
                        have hgg := good_no (g := g) hgq HNO.out
                        have GG := Lib.hid hgg
                        have HGQ := Lib.hid hgq
                        clear hgg hgq
                        go_upto_if 136 with (first
                          | (go_at_call 47
                             refine (rbeyond_any xx d.limit _ ⟨lim1, by omega⟩).mono ?_
                             rintro e w5 ⟨rfl, rfl⟩
                             rw [HB.out]))
                        refine wp_cond_true rfl ?_
                        clear b4
                        go_upto_region 25 with (
                          with_reducible refine wpList_setK (b := cb) (i := 0) (v := .bool false) rfl rfl MID.out.blk ?_ ?_ ?_ ?_ ?_ ?_ ?_
                          · rfl
                          · rfl
                          · simp
                          · kernel_rfl
                          · rfl
                          · simp [Value.oneCell']
                          rintro wx hbx hox
                          rw [← HGQ.out] at hbx
                          have m1 := MID.out.set (cs' := #[.bool gq, .int .i64 s0, .slice a1 k c1, .slice a2 k c2]) hbx hox
                          have m4 := m1.blk.cell
                          clear MID
                          have MID := Lib.hid m1
                          clear m1
                          clear hox)
                        go_quiet (fail)
                        have xq : Ext wx (wx.drewN nq) := Ext.of_drewN _ _
                        generalize wx.drewN nq = wy at *
                        have m1 := MID.out.ext xq
                        clear MID m4 xq
                        have MID := Lib.hid m1
                        clear m1
                        have hMW : we.heap.size ≤ wy.heap.size := MID.out.only.size
                        go_wp2_with (first
                          | (at_builtin
                             refine wpList_app tInts rfl rfl (v := .slice a1 k c1) rfl (owns_ext MID.out.re (ext_lit _ _ _)) rfl (Src.lit _ [.int .i64 xx] 1 1 rfl 3 1) (by simp [Value.oneCell']) (by omega) (Nat.le_trans hMW (by simp)) ?_
                             rintro v1 w12 t1 t2 t3
                             have md := (MID.out.ext (ext_lit _ _ _)).app1 t1 t2 t3
                             obtain ⟨x1, y1, rfl⟩ := owns_form t1
                             have M1 := Lib.hid md
                             clear md
                             clear t1 t2 t3 MID)
                          | (with_reducible refine wpList_setK (b := cb) (i := 2) (v := .slice x1 (k + 1) y1) rfl rfl M1.out.blk ?_ ?_ ?_ ?_ ?_ ?_ ?_
                             · rfl
                             · rfl
                             · simp
                             · kernel_rfl
                             · rfl
                             · simp [Value.oneCell']
                             rintro w13 hb13 ho13
                             have md := M1.out.set (cs' := #[.bool gq, .int .i64 s0, .slice x1 (k + 1) y1, .slice a2 k c2]) hb13 ho13
                             have hMW2 : we.heap.size ≤ w13.heap.size := md.only.size
                             have M2 := Lib.hid md
                             clear md
                             clear ho13 hb13 M1)
                          | (at_builtin
                             refine wpList_app tInts rfl rfl (v := .slice a2 k c2) rfl (owns_ext M2.out.rm (ext_lit _ _ _)) rfl (Src.lit _ [.int .i64 uu] 1 1 rfl 3 1) (by simp [Value.oneCell']) (by omega) (Nat.le_trans hMW2 (by simp)) ?_
                             rintro v2 w14 t1 t2 t3
                             have md := (M2.out.ext (ext_lit _ _ _)).app2 t1 t2 t3
                             obtain ⟨x2, y2, rfl⟩ := owns_form t1
                             have M3 := Lib.hid md
                             clear md
                             clear t1 t2 t3 M2)
                          | (with_reducible refine wpList_setK (b := cb) (i := 3) (v := .slice x2 (k + 1) y2) rfl rfl M3.out.blk ?_ ?_ ?_ ?_ ?_ ?_ ?_
                             · rfl
                             · rfl
                             · simp
                             · kernel_rfl
                             · rfl
                             · simp [Value.oneCell']
                             rintro w15 hb15 ho15
                             have md := M3.out.set (cs' := #[.bool gq, .int .i64 s0, .slice x1 (k + 1) y1, .slice x2 (k + 1) y2]) hb15 ho15
                             rw [HXX.out, HUU.out] at md
                             have nx := RfInv.next HINV.out.good GG.out md
                             have NX := Lib.hid nx
                             clear nx
                             clear ho15 hb15 M3 md))
                        go_roundw
                        case rel => exact ⟨k + 1, by omega, by go_num, ⟨gq, _, _, NX.out⟩⟩
                        case measure => first | (simp [intOf]; done) | (simp [intOf]; omega)
                      · have e1 : (xx == 1000000000) = false := by simpa using h1
                        by_cases h2 : inB xx (-d.limit) d.limit = true
                        · obtain ⟨gq, hgq⟩ : ∃ b, b = g := ⟨_, rfl⟩
                          have HB : Hid ((!inB xx (-d.limit) d.limit) = false) := by rw [h2]; rfl
                          have hgg := good_yes hgq (rIn_in HXX.out h1 h2)
                          rw [← hgq] at MID
                          have GG := Lib.hid hgg
                          clear hgg
                          clear h1 h2 hgq
                          go_upto_if 136 with (
                            go_at_call 47
                            refine (rbeyond_any xx d.limit _ ⟨lim1, by omega⟩).mono ?_
                            rintro e w5 ⟨rfl, rfl⟩
                            rw [HB.out])
                          refine wp_cond_false rfl ?_
                          clear b4
                          obtain ⟨wx, rfl⟩ : ∃ W, W = wq := ⟨wq, rfl⟩
                          have m4 := MID.out.blk.cell
                          go_upto_region 25 with (fail)
                          go_quiet (fail)
                          have xq : Ext wx (wx.drewN nq) := Ext.of_drewN _ _
                          generalize wx.drewN nq = wy at *
                          have m1 := MID.out.ext xq
                          clear MID m4 xq
                          have MID := Lib.hid m1
                          clear m1
                          have hMW : we.heap.size ≤ wy.heap.size := MID.out.only.size
                          go_wp2_with (first
                            | (at_builtin
                               refine wpList_app tInts rfl rfl (v := .slice a1 k c1) rfl (owns_ext MID.out.re (ext_lit _ _ _)) rfl (Src.lit _ [.int .i64 xx] 1 1 rfl 3 1) (by simp [Value.oneCell']) (by omega) (Nat.le_trans hMW (by simp)) ?_
                               rintro v1 w12 t1 t2 t3
                               have md := (MID.out.ext (ext_lit _ _ _)).app1 t1 t2 t3
                               obtain ⟨x1, y1, rfl⟩ := owns_form t1
                               have M1 := Lib.hid md
                               clear md
                               clear t1 t2 t3 MID)
                            | (with_reducible refine wpList_setK (b := cb) (i := 2) (v := .slice x1 (k + 1) y1) rfl rfl M1.out.blk ?_ ?_ ?_ ?_ ?_ ?_ ?_
                               · rfl
                               · rfl
                               · simp
                               · kernel_rfl
                               · rfl
                               · simp [Value.oneCell']
                               rintro w13 hb13 ho13
                               have md := M1.out.set (cs' := #[.bool gq, .int .i64 s0, .slice x1 (k + 1) y1, .slice a2 k c2]) hb13 ho13
                               have hMW2 : we.heap.size ≤ w13.heap.size := md.only.size
                               have M2 := Lib.hid md
                               clear md
                               clear ho13 hb13 M1)
                            | (at_builtin
                               refine wpList_app tInts rfl rfl (v := .slice a2 k c2) rfl (owns_ext M2.out.rm (ext_lit _ _ _)) rfl (Src.lit _ [.int .i64 uu] 1 1 rfl 3 1) (by simp [Value.oneCell']) (by omega) (Nat.le_trans hMW2 (by simp)) ?_
                               rintro v2 w14 t1 t2 t3
                               have md := (M2.out.ext (ext_lit _ _ _)).app2 t1 t2 t3
                               obtain ⟨x2, y2, rfl⟩ := owns_form t1
                               have M3 := Lib.hid md
                               clear md
                               clear t1 t2 t3 M2)
                            | (with_reducible refine wpList_setK (b := cb) (i := 3) (v := .slice x2 (k + 1) y2) rfl rfl M3.out.blk ?_ ?_ ?_ ?_ ?_ ?_ ?_
                               · rfl
                               · rfl
                               · simp
                               · kernel_rfl
                               · rfl
                               · simp [Value.oneCell']
                               rintro w15 hb15 ho15
                               have md := M3.out.set (cs' := #[.bool gq, .int .i64 s0, .slice x1 (k + 1) y1, .slice x2 (k + 1) y2]) hb15 ho15
                               rw [HXX.out, HUU.out] at md
                               have nx := RfInv.next HINV.out.good GG.out md
                               have NX := Lib.hid nx
                               clear nx
                               clear ho15 hb15 M3 md))
                          go_roundw
                          case rel => exact ⟨k + 1, by omega, by go_num, ⟨gq, _, _, NX.out⟩⟩
                          case measure => first | (simp [intOf]; done) | (simp [intOf]; omega)
                        · obtain ⟨gq, hgq⟩ : ∃ b, b = false := ⟨_, rfl⟩
                          have HB : Hid ((!inB xx (-d.limit) d.limit) = true) := by cases h3 : inB xx (-d.limit) d.limit <;> simp_all
                          have HNO := Lib.hid (rIn_out HXX.out h2)
                          clear h1 h2
                          have hgg := good_no (g := g) hgq HNO.out
                          have GG := Lib.hid hgg
                          have HGQ := Lib.hid hgq
                          clear hgg hgq
                          go_upto_if 136 with (first
                            | (go_at_call 47
                               refine (rbeyond_any xx d.limit _ ⟨lim1, by omega⟩).mono ?_
                               rintro e w5 ⟨rfl, rfl⟩
                               rw [HB.out]))
                          refine wp_cond_true rfl ?_
                          clear b4
                          go_upto_region 25 with (
                            with_reducible refine wpList_setK (b := cb) (i := 0) (v := .bool false) rfl rfl MID.out.blk ?_ ?_ ?_ ?_ ?_ ?_ ?_
                            · rfl
                            · rfl
                            · simp
                            · kernel_rfl
                            · rfl
                            · simp [Value.oneCell']
                            rintro wx hbx hox
                            rw [← HGQ.out] at hbx
                            have m1 := MID.out.set (cs' := #[.bool gq, .int .i64 s0, .slice a1 k c1, .slice a2 k c2]) hbx hox
                            have m4 := m1.blk.cell
                            clear MID
                            have MID := Lib.hid m1
                            clear m1
                            clear hox)
                          go_quiet (fail)
                          have xq : Ext wx (wx.drewN nq) := Ext.of_drewN _ _
                          generalize wx.drewN nq = wy at *
                          have m1 := MID.out.ext xq
                          clear MID m4 xq
                          have MID := Lib.hid m1
                          clear m1
                          have hMW : we.heap.size ≤ wy.heap.size := MID.out.only.size
                          go_wp2_with (first
                            | (at_builtin
                               refine wpList_app tInts rfl rfl (v := .slice a1 k c1) rfl (owns_ext MID.out.re (ext_lit _ _ _)) rfl (Src.lit _ [.int .i64 xx] 1 1 rfl 3 1) (by simp [Value.oneCell']) (by omega) (Nat.le_trans hMW (by simp)) ?_
                               rintro v1 w12 t1 t2 t3
                               have md := (MID.out.ext (ext_lit _ _ _)).app1 t1 t2 t3
                               obtain ⟨x1, y1, rfl⟩ := owns_form t1
                               have M1 := Lib.hid md
                               clear md
                               clear t1 t2 t3 MID)
                            | (with_reducible refine wpList_setK (b := cb) (i := 2) (v := .slice x1 (k + 1) y1) rfl rfl M1.out.blk ?_ ?_ ?_ ?_ ?_ ?_ ?_
                               · rfl
                               · rfl
                               · simp
                               · kernel_rfl
                               · rfl
                               · simp [Value.oneCell']
                               rintro w13 hb13 ho13
                               have md := M1.out.set (cs' := #[.bool gq, .int .i64 s0, .slice x1 (k + 1) y1, .slice a2 k c2]) hb13 ho13
                               have hMW2 : we.heap.size ≤ w13.heap.size := md.only.size
                               have M2 := Lib.hid md
                               clear md
                               clear ho13 hb13 M1)
                            | (at_builtin
                               refine wpList_app tInts rfl rfl (v := .slice a2 k c2) rfl (owns_ext M2.out.rm (ext_lit _ _ _)) rfl (Src.lit _ [.int .i64 uu] 1 1 rfl 3 1) (by simp [Value.oneCell']) (by omega) (Nat.le_trans hMW2 (by simp)) ?_
                               rintro v2 w14 t1 t2 t3
                               have md := (M2.out.ext (ext_lit _ _ _)).app2 t1 t2 t3
                               obtain ⟨x2, y2, rfl⟩ := owns_form t1
                               have M3 := Lib.hid md
                               clear md
                               clear t1 t2 t3 M2)
                            | (with_reducible refine wpList_setK (b := cb) (i := 3) (v := .slice x2 (k + 1) y2) rfl rfl M3.out.blk ?_ ?_ ?_ ?_ ?_ ?_ ?_
                               · rfl
                               · rfl
                               · simp
                               · kernel_rfl
                               · rfl
                               · simp [Value.oneCell']
                               rintro w15 hb15 ho15
                               have md := M3.out.set (cs' := #[.bool gq, .int .i64 s0, .slice x1 (k + 1) y1, .slice x2 (k + 1) y2]) hb15 ho15
                               rw [HXX.out, HUU.out] at md
                               have nx := RfInv.next HINV.out.good GG.out md
                               have NX := Lib.hid nx
                               clear nx
                               clear ho15 hb15 M3 md))
                          go_roundw
                          case rel => exact ⟨k + 1, by omega, by go_num, ⟨gq, _, _, NX.out⟩⟩
                          case measure => first | (simp [intOf]; done) | (simp [intOf]; omega)
          · obtain rfl : k = d.loops.length := by omega
            as_aux_lemma =>
              obtain ⟨es, ms, hsrc, hints⟩ := HSRC.out
              have hone := cpL_one d.copies es ms d.copies.length (fun i hi => by
                obtain ⟨x1, y1, e1, _⟩ := (hints i hi).1.1.form
                obtain ⟨x2, y2, e2, _⟩ := (hints i hi).1.2.form
                exact ⟨⟨_, _, _, e1⟩, _, _, _, e2⟩)
              have HSR := Lib.hid hsrc
              have HINTS := Lib.hid hints
              have HONE := Lib.hid hone
              clear hsrc hints hone
              clear hlt
              go_upto_region 29 with (first
                | (with_reducible refine wpList_build0 tRCopies rfl rfl ?_
                   rintro v0 wx hx0 hown0
                   obtain ⟨a0, c0, rfl⟩ := owns_form hown0
                   have qx := (BDR.out.ext hx0).cell
                   have xx0 := XR.out.tr hx0
                   have HX0 := Lib.hid hx0
                   have OWN0 := Lib.hid hown0
                   have XX0 := Lib.hid xx0
                   clear hx0 hown0 xx0)
                | (at_builtin
                   refine wpList_app tRCopies rfl rfl (v := .slice a0 0 c0) rfl OWN0.out rfl (Src.ext HSR.out XX0.out) HONE.out (by omega) HX0.out.size ?_
                   rintro v1 wy t1 t2 t3
                   have xy := HX0.out.then_only (only_grown t2) (fun b hb => (OWN0.out.lt b hb).1)
                   have i1 := HINV.out.ext xy
                   rw [Nat.zero_add, List.nil_append] at t1
                   obtain ⟨a5, c5, rfl⟩ := owns_form t1
                   have z4 := i1.blk.cell
                   have XY := Lib.hid xy
                   have I1 := Lib.hid i1
                   have OWN1 := Lib.hid t1
                   clear xy i1 t1
                   clear t2 t3 qx))
              go_upto_region 30 with (first
                | (at_builtin
                   refine wpList_app tRCopies rfl rfl (v := .slice a5 d.copies.length c5) rfl (owns_ext OWN1.out (ext_lit _ _ _)) rfl (Src.lit _ [.bool g, .int .i64 s0, .slice a1 d.loops.length c1, .slice a2 d.loops.length c2] 1 4 rfl 74 1) (by simp [Value.oneCell']) (by omega) (Nat.le_trans XY.out.size (by simp)) ?_
                   rintro v2 wz t1 t2 t3
                   have xz := (XY.out.tr (ext_lit _ _ _)).then_only (only_grown t2) (fun b hb => (OWN1.out.lt b hb).1)
                   have i2 := HINV.out.ext xz
                   obtain ⟨a6, c6, rfl⟩ := owns_form t1
                   obtain ⟨_, bdz, _, _, rdz, rcz⟩ := HALL.out wz i2.only
                   have XZ := Lib.hid xz
                   have I2 := Lib.hid i2
                   have OWN2 := Lib.hid t1
                   have BDZ := Lib.hid bdz
                   have RDZ := Lib.hid rdz
                   have RCZ := Lib.hid rcz
                   clear xz i2 t1 bdz rdz rcz
                   clear t2 t3 z4)
                | (with_reducible refine wpList_setK (b := bd) (i := 4) (v := .slice a6 (d.copies.length + 1) c6) rfl rfl BDZ.out ?_ ?_ ?_ ?_ ?_ ?_ ?_
                   · rfl
                   · rfl
                   · simp
                   · kernel_rfl
                   · rfl
                   · simp [Value.oneCell']
                   rintro wf hbf hof
                   obtain ⟨l1, l2, l3, l4, l5, l6, l7⟩ := HLTS.out
                   have bdf : Blk wf bd #[.slice ap d.pat.length cpp, .slice al d.loops.length cl, .int .i64 d.win, .int .i64 d.limit, .slice a6 (d.copies.length + 1) c6] 71 := hbf
                   have rdf := RDZ.out.only hof (fun (e : rd = bd) => by omega)
                   have rcf := RCZ.out.only hof (fun (e : rc = bd) => by omega)
                   have cbf := I2.out.blk.only hof (fun (e : cb = bd) => l4 e.symm)
                   have ref := owns_only I2.out.re hof (fun b hb (e : b = bd) => by have := (I2.out.re.lt b hb).1; omega)
                   have rmf := owns_only I2.out.rm hof (fun b hb (e : b = bd) => by have := (I2.out.rm.lt b hb).1; omega)
                   have rwf := owns_only OWN2.out hof (fun b hb (e : b = bd) => by have := (OWN2.out.lt b hb).1; have := HINV.out.only.size; omega)
                   have xf : Ext w wf := (XR.out.tr XZ.out).then_only hof (fun b (e : b = bd) => by omega)
                   have BDF := Lib.hid bdf
                   have RDF := Lib.hid rdf
                   have RCF := Lib.hid rcf
                   have CBF := Lib.hid cbf
                   have REF := Lib.hid ref
                   have RMF := Lib.hid rmf
                   have RWF := Lib.hid rwf
                   have XF := Lib.hid xf
                   clear bdf rdf rcf cbf ref rmf rwf xf
                   clear hof hbf BDZ RDZ RCZ OWN2 I2))
              obtain ⟨l1, l2, l3, l4, l5, l6, l7⟩ := HLTS.out
              have hNbd : bd ≠ rd ∧ bd ≠ rc := ⟨by omega, by omega⟩
              have xA : Ext w wf.drew := XF.out.drew
              have xD : Ext wf wf.drew := (Below.refl _ _).drew
              have bdA := BDF.out.ext xD
              have cbA := CBF.out.ext xD
              have rdA := RDF.out.ext xD
              have rcA := RCF.out.ext xD
              have reA := owns_ext REF.out xD
              have rmA := owns_ext RMF.out xD
              have rwA := owns_ext RWF.out xD
              refine wp_region_K (fun wx => (∀ i, wx.cell? ⟨bd, i, none⟩ = (#[.slice ap d.pat.length cpp, .slice al d.loops.length cl, .int .i64 d.win, .int .i64 d.limit, .slice a6 (d.copies.length + 1) c6] : Array Value)[i]?) ∧ (∀ i, wx.cell? ⟨cb, i, none⟩ = (#[.bool g, .int .i64 s0, .slice a1 d.loops.length c1, .slice a2 d.loops.length c2] : Array Value)[i]?)) 5 (by kernel_rfl) ⟨bdA.cell, cbA.cell⟩ (fun hHeld => ?_)
              generalize wf.drew = wA at *
              have q1 := cbA.cell
              have XA := Lib.hid xA
              have BDA := Lib.hid bdA
              have CBA := Lib.hid cbA
              have RDA := Lib.hid rdA
              have RCA := Lib.hid rcA
              have REA := Lib.hid reA
              have RMA := Lib.hid rmA
              have RWA := Lib.hid rwA
              clear xA bdA cbA rdA rcA reA rmA rwA
              clear BDF CBF RDF RCF REF RMF RWF XF xD
              refine wpAnyK_takeL (i := 2) (v := ?_) rfl (by kernel_rfl) (by kernel_rfl) (by kernel_rfl) (by kernel_rfl) (fun _ _ _ h => h) (Or.inl ⟨by rfl, ?_⟩) hHeld ?_
              rotate_left
              · intro w hSw; (try dsimp only at hSw); go_simp; (try with_reducible rfl)
              try simp only [Act.put, List.setIfInBounds_toArray, List.set_cons_zero, List.set_cons_succ]
              refine wpAnyK_takeL (i := 0) (v := ?_) rfl (by kernel_rfl) (by kernel_rfl) (by kernel_rfl) (by kernel_rfl) (fun _ _ _ h => h) (Or.inl ⟨by rfl, ?_⟩) hHeld ?_
              rotate_left
              · intro w hSw; (try dsimp only at hSw); go_simp; (try with_reducible rfl)
              try simp only [Act.put, List.setIfInBounds_toArray, List.set_cons_zero, List.set_cons_succ]
              refine wpAnyK_ready (rs := [1, 3]) (by kernel_rfl) (by simp) ?_
              refine AllReadyK.consL (i := 1) rfl (fun K hK => ?_) ?_
              · go_simp
                refine hK.out _ _ (fun _ => ⟨BDA.out.cell, CBA.out.cell⟩) (fun hHeld2 => ?_)
                clear hK K
                try clear hHeld
                have hHeld := hHeld2 (by decide)
                clear hHeld2
                try simp only [Act.put, List.setIfInBounds_toArray, List.set_cons_zero, List.set_cons_succ]
                refine wpAnyK_ready (rs := [3]) (by kernel_rfl) (by simp) ?_
                refine AllReadyK.consL (i := 3) rfl (fun K hK => ?_) ?_
                · refine step_storeK (cells := #[.slice ap d.pat.length cpp, .slice al d.loops.length cl, .int .i64 d.win, .int .i64 d.limit, .slice a6 (d.copies.length + 1) c6]) rfl rfl RDA.out rfl rfl (by kernel_rfl) rfl (by simp [Value.oneCell']) ?_
                  intro w1 hb1 ho1
                  have h1 := BDA.out.only ho1 (fun (e : bd = rd) => hNbd.1 e)
                  have h2 := CBA.out.only ho1 (fun (e : cb = rd) => l5 e.symm)
                  have h3 := RCA.out.only ho1 (fun (e : rc = rd) => l7 e.symm)
                  have h4 := owns_only REA.out ho1 (fun b hb (e : b = rd) => by have := (REA.out.lt b hb).1; omega)
                  have h5 := owns_only RMA.out ho1 (fun b hb (e : b = rd) => by have := (RMA.out.lt b hb).1; omega)
                  have h6 := owns_only RWA.out ho1 (fun b hb (e : b = rd) => by have := (RWA.out.lt b hb).1; have := HINV.out.only.size; omega)
                  have h7 : Ext w w1 := XA.out.then_only ho1 (fun b (e : b = rd) => by omega)
                  have q1 := h2.cell
                  clear BDA CBA RDA RCA REA RMA RWA XA
                  have XA := Lib.hid h7
                  have BDA := Lib.hid h1
                  have CBA := Lib.hid h2
                  have RDA := Lib.hid hb1
                  have RCA := Lib.hid h3
                  have REA := Lib.hid h4
                  have RMA := Lib.hid h5
                  have RWA := Lib.hid h6
                  clear h7 h1 h2 hb1 h3 h4 h5 h6
                  clear ho1
                  refine hK.out _ _ (fun _ => ⟨BDA.out.cell, CBA.out.cell⟩) (fun hHeld2 => ?_)
                  clear hK K
                  try clear hHeld
                  have hHeld := hHeld2 (by decide)
                  clear hHeld2
                  try simp only [Act.put, List.setIfInBounds_toArray, List.set_cons_zero, List.set_cons_succ]
                  refine wpAnyK_ready (rs := [4]) (by kernel_rfl) (by simp) ?_
                  refine AllReadyK.consL (i := 4) rfl (fun K hK => ?_) ?_
                  · refine step_storeK (cells := #[.bool g, .int .i64 s0, .slice a1 d.loops.length c1, .slice a2 d.loops.length c2]) rfl rfl RCA.out rfl rfl (by kernel_rfl) rfl (by simp [Value.oneCell']) ?_
                    intro w2 hb1 ho1
                    have h1 := BDA.out.only ho1 (fun (e : bd = rc) => hNbd.2 e)
                    have h2 := CBA.out.only ho1 (fun (e : cb = rc) => l6 e.symm)
                    have h3 := RDA.out.only ho1 (fun (e : rd = rc) => l7 e)
                    have h4 := owns_only REA.out ho1 (fun b hb (e : b = rc) => by have := (REA.out.lt b hb).1; omega)
                    have h5 := owns_only RMA.out ho1 (fun b hb (e : b = rc) => by have := (RMA.out.lt b hb).1; omega)
                    have h6 := owns_only RWA.out ho1 (fun b hb (e : b = rc) => by have := (RWA.out.lt b hb).1; have := HINV.out.only.size; omega)
                    have h7 : Ext w w2 := XA.out.then_only ho1 (fun b (e : b = rc) => by omega)
                    clear BDA CBA RDA RCA REA RMA RWA XA q1
                    have XA := Lib.hid h7
                    have BDA := Lib.hid h1
                    have CBA := Lib.hid h2
                    have RDA := Lib.hid h3
                    have RCA := Lib.hid hb1
                    have REA := Lib.hid h4
                    have RMA := Lib.hid h5
                    have RWA := Lib.hid h6
                    clear h7 h1 h2 h3 hb1 h4 h5 h6
                    clear ho1
                    refine hK.out _ _ (fun _ => ⟨BDA.out.cell, CBA.out.cell⟩) (fun hHeld2 => ?_)
                    clear hK K
                    try clear hHeld
                    have hHeld := hHeld2 (by decide)
                    clear hHeld2
                    try simp only [Act.put, List.setIfInBounds_toArray, List.set_cons_zero, List.set_cons_succ]
                    refine wpAnyK_ready (rs := [5]) (by kernel_rfl) (by simp) ?_
                    refine AllReadyK.consL (i := 5) rfl (fun K hK => ?_) ?_
                    · go_simp
                      refine hK.out _ _ (fun h => absurd h (by decide)) (fun hHeld2 => ?_)
                      clear hK K hHeld2
                      try clear hHeld
                      try simp only [Act.put, List.setIfInBounds_toArray, List.set_cons_zero, List.set_cons_succ]
                      refine wpAnyK_done (by kernel_rfl) ?_ _
                      have k0 := RDA.out.cell
                      have k1 := RCA.out.cell
                      have hgood : (rC d seen).good = g := (HINV.out.done HOK.out).symm
                      have hshift : (rC d seen).shift = s0 := by
                        show (if rIs d seen = true then (rB d seen).1 else 0) = s0
                        rw [HS0.out, HIS.out]; unfold rB; rw [HBP.out]
                      have hcode : rCode d seen = ec := by unfold rCode; rw [HEC.out, HIS.out]
                      have hcps : CpsIn (fun b => R b ∨ (w.heap.size ≤ b ∧ b < w2.heap.size)) w2 (.slice a6 (d.copies.length + 1) c6) (d.copies ++ [rC d seen]) := by
                        refine CpsIn.snoc (R := R) (B := wr.heap.size) (es := es) (ms := ms) (ve := .slice a1 d.loops.length c1) (vm := .slice a2 d.loops.length c2) (fun b hb => .inl hb) (fun i hi => ⟨⟨(HINTS.out i hi).1.1.ext XA.out, (HINTS.out i hi).1.2.ext XA.out⟩, (HINTS.out i hi).2⟩) (Sl.of_owns REA.out) (Sl.of_owns RMA.out) (fun b hb => .inr ?_) ?_
                        · rcases hb with hb | hb | hb
                          · have h8 := RWA.out.lt b hb; have := HINV.out.only.size; exact ⟨by omega, h8.2⟩
                          · have h8 := REA.out.lt b hb; exact ⟨by omega, h8.2⟩
                          · have h8 := RMA.out.lt b hb; exact ⟨by omega, h8.2⟩
                        · unfold cpC
                          rw [hgood, hshift]
                          exact RWA.out
                      have HCPS := Lib.hid hcps
                      have HGD := Lib.hid hgood
                      have HSH := Lib.hid hshift
                      have HCO := Lib.hid hcode
                      clear hcps hgood hshift hcode
                      go_wp2
                      refine bodyPost_ret (v := .tuple #[.agg #[.slice ap d.pat.length cpp, .slice al d.loops.length cl, .int .i64 d.win, .int .i64 d.limit, .slice a6 (d.copies.length + 1) c6], .agg #[.bool g, .int .i64 s0, .slice a1 d.loops.length c1, .slice a2 d.loops.length c2], .int .i64 ec]) (by simp [results, Try.results26, go_sem, k0, k1]) rfl ⟨XA.out, .inr ⟨HER.out, .slice a1 d.loops.length c1, .slice a2 d.loops.length c2, .slice a6 (d.copies.length + 1) c6, ?_, Sl.of_owns REA.out, Sl.of_owns RMA.out, HCPS.out, fun b hb => ?_⟩⟩
                      · rw [HGD.out, HSH.out, HCO.out]
                        rfl
                      · rcases hb with hb | hb
                        · have h8 := REA.out.lt b hb; exact ⟨by omega, h8.2⟩
                        · have h8 := RMA.out.lt b hb; exact ⟨by omega, h8.2⟩
                    · exact AllReadyK.nil
                  · exact AllReadyK.nil
                · exact AllReadyK.nil
              refine AllReadyK.consL (i := 3) rfl (fun K hK => ?_) ?_
              · refine step_storeK (cells := #[.slice ap d.pat.length cpp, .slice al d.loops.length cl, .int .i64 d.win, .int .i64 d.limit, .slice a6 (d.copies.length + 1) c6]) rfl rfl RDA.out rfl rfl (by kernel_rfl) rfl (by simp [Value.oneCell']) ?_
                intro w1 hb1 ho1
                have h1 := BDA.out.only ho1 (fun (e : bd = rd) => hNbd.1 e)
                have h2 := CBA.out.only ho1 (fun (e : cb = rd) => l5 e.symm)
                have h3 := RCA.out.only ho1 (fun (e : rc = rd) => l7 e.symm)
                have h4 := owns_only REA.out ho1 (fun b hb (e : b = rd) => by have := (REA.out.lt b hb).1; omega)
                have h5 := owns_only RMA.out ho1 (fun b hb (e : b = rd) => by have := (RMA.out.lt b hb).1; omega)
                have h6 := owns_only RWA.out ho1 (fun b hb (e : b = rd) => by have := (RWA.out.lt b hb).1; have := HINV.out.only.size; omega)
                have h7 : Ext w w1 := XA.out.then_only ho1 (fun b (e : b = rd) => by omega)
                have q1 := h2.cell
                clear BDA CBA RDA RCA REA RMA RWA XA
                have XA := Lib.hid h7
                have BDA := Lib.hid h1
                have CBA := Lib.hid h2
                have RDA := Lib.hid hb1
                have RCA := Lib.hid h3
                have REA := Lib.hid h4
                have RMA := Lib.hid h5
                have RWA := Lib.hid h6
                clear h7 h1 h2 hb1 h3 h4 h5 h6
                clear ho1
                refine hK.out _ _ (fun _ => ⟨BDA.out.cell, CBA.out.cell⟩) (fun hHeld2 => ?_)
                clear hK K
                try clear hHeld
                have hHeld := hHeld2 (by decide)
                clear hHeld2
                try simp only [Act.put, List.setIfInBounds_toArray, List.set_cons_zero, List.set_cons_succ]
                refine wpAnyK_ready (rs := [1]) (by kernel_rfl) (by simp) ?_
                refine AllReadyK.consL (i := 1) rfl (fun K hK => ?_) ?_
                · go_simp
                  refine hK.out _ _ (fun _ => ⟨BDA.out.cell, CBA.out.cell⟩) (fun hHeld2 => ?_)
                  clear hK K
                  try clear hHeld
                  have hHeld := hHeld2 (by decide)
                  clear hHeld2
                  try simp only [Act.put, List.setIfInBounds_toArray, List.set_cons_zero, List.set_cons_succ]
                  refine wpAnyK_ready (rs := [4]) (by kernel_rfl) (by simp) ?_
                  refine AllReadyK.consL (i := 4) rfl (fun K hK => ?_) ?_
                  · refine step_storeK (cells := #[.bool g, .int .i64 s0, .slice a1 d.loops.length c1, .slice a2 d.loops.length c2]) rfl rfl RCA.out rfl rfl (by kernel_rfl) rfl (by simp [Value.oneCell']) ?_
                    intro w2 hb1 ho1
                    have h1 := BDA.out.only ho1 (fun (e : bd = rc) => hNbd.2 e)
                    have h2 := CBA.out.only ho1 (fun (e : cb = rc) => l6 e.symm)
                    have h3 := RDA.out.only ho1 (fun (e : rd = rc) => l7 e)
                    have h4 := owns_only REA.out ho1 (fun b hb (e : b = rc) => by have := (REA.out.lt b hb).1; omega)
                    have h5 := owns_only RMA.out ho1 (fun b hb (e : b = rc) => by have := (RMA.out.lt b hb).1; omega)
                    have h6 := owns_only RWA.out ho1 (fun b hb (e : b = rc) => by have := (RWA.out.lt b hb).1; have := HINV.out.only.size; omega)
                    have h7 : Ext w w2 := XA.out.then_only ho1 (fun b (e : b = rc) => by omega)
                    clear BDA CBA RDA RCA REA RMA RWA XA q1
                    have XA := Lib.hid h7
                    have BDA := Lib.hid h1
                    have CBA := Lib.hid h2
                    have RDA := Lib.hid h3
                    have RCA := Lib.hid hb1
                    have REA := Lib.hid h4
                    have RMA := Lib.hid h5
                    have RWA := Lib.hid h6
                    clear h7 h1 h2 h3 hb1 h4 h5 h6
                    clear ho1
                    refine hK.out _ _ (fun _ => ⟨BDA.out.cell, CBA.out.cell⟩) (fun hHeld2 => ?_)
                    clear hK K
                    try clear hHeld
                    have hHeld := hHeld2 (by decide)
                    clear hHeld2
                    try simp only [Act.put, List.setIfInBounds_toArray, List.set_cons_zero, List.set_cons_succ]
                    refine wpAnyK_ready (rs := [5]) (by kernel_rfl) (by simp) ?_
                    refine AllReadyK.consL (i := 5) rfl (fun K hK => ?_) ?_
                    · go_simp
                      refine hK.out _ _ (fun h => absurd h (by decide)) (fun hHeld2 => ?_)
                      clear hK K hHeld2
                      try clear hHeld
                      try simp only [Act.put, List.setIfInBounds_toArray, List.set_cons_zero, List.set_cons_succ]
                      refine wpAnyK_done (by kernel_rfl) ?_ _
                      have k0 := RDA.out.cell
                      have k1 := RCA.out.cell
                      have hgood : (rC d seen).good = g := (HINV.out.done HOK.out).symm
                      have hshift : (rC d seen).shift = s0 := by
                        show (if rIs d seen = true then (rB d seen).1 else 0) = s0
                        rw [HS0.out, HIS.out]; unfold rB; rw [HBP.out]
                      have hcode : rCode d seen = ec := by unfold rCode; rw [HEC.out, HIS.out]
                      have hcps : CpsIn (fun b => R b ∨ (w.heap.size ≤ b ∧ b < w2.heap.size)) w2 (.slice a6 (d.copies.length + 1) c6) (d.copies ++ [rC d seen]) := by
                        refine CpsIn.snoc (R := R) (B := wr.heap.size) (es := es) (ms := ms) (ve := .slice a1 d.loops.length c1) (vm := .slice a2 d.loops.length c2) (fun b hb => .inl hb) (fun i hi => ⟨⟨(HINTS.out i hi).1.1.ext XA.out, (HINTS.out i hi).1.2.ext XA.out⟩, (HINTS.out i hi).2⟩) (Sl.of_owns REA.out) (Sl.of_owns RMA.out) (fun b hb => .inr ?_) ?_
                        · rcases hb with hb | hb | hb
                          · have h8 := RWA.out.lt b hb; have := HINV.out.only.size; exact ⟨by omega, h8.2⟩
                          · have h8 := REA.out.lt b hb; exact ⟨by omega, h8.2⟩
                          · have h8 := RMA.out.lt b hb; exact ⟨by omega, h8.2⟩
                        · unfold cpC
                          rw [hgood, hshift]
                          exact RWA.out
                      have HCPS := Lib.hid hcps
                      have HGD := Lib.hid hgood
                      have HSH := Lib.hid hshift
                      have HCO := Lib.hid hcode
                      clear hcps hgood hshift hcode
                      go_wp2
                      refine bodyPost_ret (v := .tuple #[.agg #[.slice ap d.pat.length cpp, .slice al d.loops.length cl, .int .i64 d.win, .int .i64 d.limit, .slice a6 (d.copies.length + 1) c6], .agg #[.bool g, .int .i64 s0, .slice a1 d.loops.length c1, .slice a2 d.loops.length c2], .int .i64 ec]) (by simp [results, Try.results26, go_sem, k0, k1]) rfl ⟨XA.out, .inr ⟨HER.out, .slice a1 d.loops.length c1, .slice a2 d.loops.length c2, .slice a6 (d.copies.length + 1) c6, ?_, Sl.of_owns REA.out, Sl.of_owns RMA.out, HCPS.out, fun b hb => ?_⟩⟩
                      · rw [HGD.out, HSH.out, HCO.out]
                        rfl
                      · rcases hb with hb | hb
                        · have h8 := REA.out.lt b hb; exact ⟨by omega, h8.2⟩
                        · have h8 := RMA.out.lt b hb; exact ⟨by omega, h8.2⟩
                    · exact AllReadyK.nil
                  · exact AllReadyK.nil
                · exact AllReadyK.nil
              · exact AllReadyK.nil
  · obtain ⟨z1, z2, HZ⟩ : ∃ z1 z2 : Unit, Hid (er ≠ 0) := ⟨(), (), he0⟩
    have HM : Hid (Calls Try.prog 12 #[.slice ap d.pat.length cpp, .int .i64 d.win, .slice as_ seen.length cs] w3 fun e w' => e = .returned (.tuple #[.agg #[.int .i64 0, .int .i64 0, .slice none 0 0], .int .i64 er]) ∧ Ext w3 w') := HMT.out.mono fun e w' ⟨h, hx⟩ => by
      rcases h with ⟨e2, h1, h2, rfl⟩ | ⟨h1, _⟩
      · exact ⟨by rw [h1, hme, her], hx⟩
      · rw [hme, ← her] at h1; exact (he0 h1).elim
    have e8 : (er != 0) = true := by simp [he0]
    have HER := Lib.hid her
    clear her
    clear he0 hme HMT d5
    go_upto_region 4 with (first
      | (go_at_call 12
         refine HM.out.mono ?_
         rintro e w4 ⟨rfl, hx4⟩
         have b14 := B13.out.ext hx4
         have rd4 := RD3.out.ext hx4
         have rc4 := RC.out.ext hx4
         have x4 := X3.out.tr hx4
         have B14 := Lib.hid b14
         have RD4 := Lib.hid rd4
         have RC4 := Lib.hid rc4
         have X4 := Lib.hid x4
         clear b14 rd4 rc4 x4
         clear hx4 c3)
      | (with_reducible refine wpList_allocA (t := 30) rfl rfl Try.zeroValue30 ?_
         rintro fb w5 hb5 hx5 hl5
         have hfbl : w4.heap.size ≤ fb := hl5
         have FB := Lib.hid hb5
         have G5 := Lib.hid hx5
         clear hb5 hx5)
      | (with_reducible refine wpList_storeK (ty := 30) (cells := #[.int .i64 0, .int .i64 0, .slice none 0 0]) rfl rfl FB.out ?_ ?_ ?_ ?_ ?_ ?_
         · rfl
         · rfl
         · kernel_rfl
         · rfl
         · simp [Value.oneCell']
         rintro w6 hb6 ho6
         have hx6 : Ext w4 w6 := G5.out.then_only ho6 (fun k (e : k = fb) => by omega)
         have b16 := B14.out.ext hx6
         have rd6 := RD4.out.ext hx6
         have rc6 := RC4.out.ext hx6
         have x6 := X4.out.tr hx6
         have c6 := b16.cell
         have B16 := Lib.hid b16
         have RD6 := Lib.hid rd6
         have RC6 := Lib.hid rc6
         have X6 := Lib.hid x6
         clear b16 rd6 rc6 x6
         clear G5 ho6 hx6 FB))
    go_wp2_with (first
      | (with_reducible refine wpList_storeK (ty := 71) (cells := #[.slice ap d.pat.length cpp, .slice al d.loops.length cl, .int .i64 d.win, .int .i64 d.limit, .slice av d.copies.length cv]) rfl rfl RD6.out ?_ ?_ ?_ ?_ ?_ ?_
         · rfl
         · rfl
         · kernel_rfl
         · rfl
         · simp [Value.oneCell']
         rintro w7 hb7 ho7
         have hx7 : Ext w w7 := X6.out.then_only ho7 (fun k (e : k = rd) => by omega)
         have rc7 := RC6.out.only ho7 (fun (e : rc = rd) => by omega)
         have RD7 := Lib.hid hb7
         have RC7 := Lib.hid rc7
         have X7 := Lib.hid hx7
         clear hb7 rc7 hx7
         clear ho7)
      | (with_reducible refine wpList_storeK (ty := 74) (cells := #[.bool false, .int .i64 0, .slice none 0 0, .slice none 0 0]) rfl rfl RC7.out ?_ ?_ ?_ ?_ ?_ ?_
         · rfl
         · rfl
         · kernel_rfl
         · rfl
         · simp [Value.oneCell']
         rintro w8 hb8 ho8
         have hx8 : Ext w w8 := X7.out.then_only ho8 (fun k (e : k = rc) => by omega)
         have k0 := hb8.cell
         have k1 := (RD7.out.only ho8 (fun (e : rd = rc) => by omega)).cell
         have X8 := Lib.hid hx8
         clear hx8
         clear ho8 hb8))
    refine bodyPost_ret (v := .tuple #[.agg #[.slice ap d.pat.length cpp, .slice al d.loops.length cl, .int .i64 d.win, .int .i64 d.limit, .slice av d.copies.length cv], .agg #[.bool false, .int .i64 0, .slice none 0 0, .slice none 0 0], .int .i64 er]) (by simp [results, Try.results26, go_sem, k0, k1]) rfl ⟨X8.out, .inl ⟨?_, ?_⟩⟩
    · rw [← HER.out]; exact HZ.out
    · rw [← HER.out]; rfl
end Go.Proofs.Ytafnadaahnkcmaa
