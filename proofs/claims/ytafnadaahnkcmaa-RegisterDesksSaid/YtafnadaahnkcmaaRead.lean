/- (Desk).Read. -/
import Derived.Test.YtafnadaahnkcmaaDesk2
import Derived.Test.YtafnadaahnkcmaaNew
import Derived.Test.YtafnadaahnkcmaaApp2
import Derived.Deep.DeepCutAuto
namespace Go.Proofs.Ytafnadaahnkcmaa
open Go.RowKit
set_option linter.unusedVariables false
set_option linter.unusedSimpArgs false

theorem tCopies : SliceT Try.prog 78 59 (.agg #[.bool false, .int .i64 0, .slice none 0 0, .slice none 0 0]) 4 64 := ⟨by kernel_rfl, by kernel_rfl, rfl, by decide, by decide⟩
theorem owns_form {w : World} {base : Nat} {e : TypeId} {size : Nat} {v : Value} {n : Nat} {xs : List Value} (h : w.ownsRow base e size v n xs) : ∃ a c, v = .slice a n c := by
  rcases h.2 with ⟨rfl, rfl⟩ | ⟨g, cap, cur, rfl, _⟩
  · exact ⟨_, _, rfl⟩
  · exact ⟨_, _, rfl⟩
theorem owns_pos {w : World} {base : Nat} {e : TypeId} {size : Nat} {v : Value} {n : Nat} {xs : List Value} (h : w.ownsRow base e size v n xs) (hn : 0 < n) : ∃ g c, v = .slice (some ⟨g, 0, none⟩) n c ∧ ∀ j u, xs[j]? = some u → w.cell? ⟨g, j, none⟩ = some u := by
  have h2 := h.2
  rcases h2 with ⟨rfl, rfl⟩ | ⟨g, cap, cur, rfl, _⟩
  · omega
  · refine ⟨g, cap, rfl, fun j u hj => ?_⟩
    have := h.cells rfl j u hj
    rwa [addr0 g j] at this

/-- The desk is one. -/
theorem none_any (db : Nat) (x : Addr) (w : World) (hc : w.cell? ⟨db, 0, none⟩ = some (.pointer (some x))) :
    Calls Try.prog 42 #[.pointer (some ⟨db, 0, none⟩)] w fun e w' => e = .returned (.bool false) ∧ w = w' := by
  go_enter Try.func42, Try.ntmps42
  go_wp2
  go_ret
  exact ⟨rfl, rfl⟩

open Classical in
noncomputable def readErr (d : DeskD) (seen : List Int) : Int := if 40 < seen.length then 2 else if ¬ SeenOk seen then 11 else 0
def ReadPost (w : World) (db : Nat) (d : DeskD) (m : DMem) (ρ : Nat → Nat) (seen : List Int) (e : Ending) (w' : World) : Prop :=
  (readErr d seen ≠ 0 ∧ e = .returned (.tuple #[cpV false 0 (.slice none 0 0) (.slice none 0 0), .int .i64 (readErr d seen)]) ∧ Ext w w') ∨
  (readErr d seen = 0 ∧ ∃ ve vm m' ρ', e = .returned (.tuple #[cpV (rC d seen).good (rC d seen).shift ve vm, .int .i64 (rCode d seen)]) ∧
    w'.ownsRow w.heap.size 3 1 ve d.n ((rErrs d seen d.n).map (.int .i64)) ∧ w'.ownsRow w.heap.size 3 1 vm d.n ((rMovs d seen d.n).map (.int .i64)) ∧ (ve.ownBlock = vm.ownBlock → ve.ownBlock = none) ∧
    (∀ b, ve.ownBlock = some b ∨ vm.ownBlock = some b → ρ' b = 0) ∧ DSt w' db (readD d seen) m' ρ' ∧ (∀ b, b < w.heap.size → ρ' b = ρ b) ∧ Only (fun k => ρ k ≠ 0) w w')

theorem owns_at {w : World} {base : Nat} {e : TypeId} {size : Nat} {v : Value} {n g c : Nat} {xs : List Value} (h : w.ownsRow base e size v n xs) (hv : v = .slice (some ⟨g, 0, none⟩) n c) : ∀ j u, xs[j]? = some u → w.cell? ⟨g, j, none⟩ = some u := by
  subst hv
  intro j u hj
  have := h.cells rfl j u hj
  rwa [addr0 g j] at this

/-- The head of the round over the loops. -/
def RdInv (we : World) (db cb : Nat) (d : DeskD) (m : DMem) (ρ : Nat → Nat) (seen : List Int) (g0 : Bool) (s0 : Int) (k : Nat) (wr : World) : Prop :=
  ∃ mk ρk ve vm, DSt wr db (dAt d seen k) mk ρk ∧ (mk.mb = m.mb ∧ mk.vp = m.vp ∧ mk.vl = m.vl ∧ mk.vc = m.vc ∧ mk.qb = m.qb) ∧ (∀ b, b < we.heap.size → ρk b = ρ b) ∧
    Only (fun b => ρ b ≠ 0 ∨ b = cb ∨ we.heap.size ≤ b) we wr ∧ Blk wr cb #[.bool g0, .int .i64 s0, ve, vm] 59 ∧
    wr.ownsRow we.heap.size 3 1 ve k ((rErrs d seen k).map (.int .i64)) ∧ wr.ownsRow we.heap.size 3 1 vm k ((rMovs d seen k).map (.int .i64)) ∧ (ve.ownBlock = vm.ownBlock → ve.ownBlock = none) ∧
    ∀ b, (ve.ownBlock = some b ∨ vm.ownBlock = some b) → ρk b = 0
theorem RdInv.start {we : World} {db cb : Nat} {d : DeskD} {m : DMem} {ρ : Nat → Nat} {seen : List Int} {g0 : Bool} {s0 : Int} (h : DSt we db d m ρ) (hq : d.qs.length = d.n) (hc : Blk we cb #[.bool g0, .int .i64 s0, .slice none 0 0, .slice none 0 0] 59) : RdInv we db cb d m ρ seen g0 s0 0 we := by
  refine ⟨m, ρ, _, _, ?_, ⟨rfl, rfl, rfl, rfl, rfl⟩, fun _ _ => rfl, Only.refl _ _, hc, World.ownsRow_nil _ _ _ _, World.ownsRow_nil _ _ _ _, fun _ => rfl, fun b hb => by rcases hb with hb | hb <;> cases hb⟩
  have : dAt d seen 0 = d := by unfold dAt; rw [qsAt_zero d seen hq]
  rw [this]; exact h

theorem RdInv.next {we wg wl : World} {db cb : Nat} {d : DeskD} {m mk : DMem} {ρ ρk : Nat → Nat} {seen : List Int} {g0 : Bool} {s0 : Int} {k : Nat} {ve vm ve' vm' : Value}
    (hdk : DSt wg db (dAt d seen (k + 1)) mk ρk) (hm : mk.mb = m.mb ∧ mk.vp = m.vp ∧ mk.vl = m.vl ∧ mk.vc = m.vc ∧ mk.qb = m.qb) (hro : ∀ b, b < we.heap.size → ρk b = ρ b) (hon : Only (fun b => ρ b ≠ 0 ∨ b = cb ∨ we.heap.size ≤ b) we wg)
    (hcb : Blk wg cb #[.bool g0, .int .i64 s0, ve, vm] 59) (hcl : cb < we.heap.size) (hc0 : ρ cb = 0) (hz : ∀ b, (ve.ownBlock = some b ∨ vm.ownBlock = some b) → ρk b = 0 ∧ we.heap.size ≤ b)
    (ho : Only (fun b => ve.ownBlock = some b ∨ vm.ownBlock = some b) wg wl) (hve : wl.ownsRow we.heap.size 3 1 ve' (k + 1) ((rErrs d seen (k + 1)).map (.int .i64))) (hvm : wl.ownsRow we.heap.size 3 1 vm' (k + 1) ((rMovs d seen (k + 1)).map (.int .i64)))
    (hfe : ∀ b, ve'.ownBlock = some b → ve.ownBlock = some b ∨ wg.heap.size ≤ b) (hfm : ∀ b, vm'.ownBlock = some b → vm.ownBlock = some b ∨ wg.heap.size ≤ b) (hap : ve'.ownBlock = vm'.ownBlock → ve'.ownBlock = none) :
    RdInv we db cb d m ρ seen g0 s0 (k + 1) ((wl.setCell ⟨cb, 2, none⟩ ve').setCell ⟨cb, 3, none⟩ vm') := by
  have o2 : Only (fun b => b = cb) wl ((wl.setCell ⟨cb, 2, none⟩ ve').setCell ⟨cb, 3, none⟩ vm') := (Only.set (S := fun b => b = cb) wl ⟨cb, 2, none⟩ ve' rfl).tr (Only.set (S := fun b => b = cb) _ ⟨cb, 3, none⟩ vm' rfl)
  have hcb0 : ρk cb = 0 := (hro cb hcl).trans hc0
  have hcv : ¬ (ve.ownBlock = some cb ∨ vm.ownBlock = some cb) := fun h => by have := (hz cb h).2; omega
  have hcb2 := hcb.only ho hcv
  have hz' : ∀ b, (ve'.ownBlock = some b ∨ vm'.ownBlock = some b) → ρk b = 0 ∧ we.heap.size ≤ b := fun b hb => by
    have hnew : wg.heap.size ≤ b → ρk b = 0 ∧ we.heap.size ≤ b := fun h => ⟨Decidable.byContradiction fun hh => by have := hdk.hlt b hh; omega, Nat.le_trans hon.size h⟩
    rcases hb with hb | hb
    · exact (hfe b hb).elim (fun h => hz b (.inl h)) hnew
    · exact (hfm b hb).elim (fun h => hz b (.inr h)) hnew
  have hcn : ∀ b, (ve'.ownBlock = some b ∨ vm'.ownBlock = some b) → ¬ b = cb := fun b hb e => by have := (hz' b hb).2; omega
  refine ⟨mk, ρk, ve', vm', (hdk.only ho (fun b hb => (hz b hb).1)).only o2 (fun b hb => by rw [hb]; exact hcb0), hm, hro, ?_, blk_set (blk_set hcb2 2 ve') 3 vm', owns_only hve o2 fun b hb => hcn b (.inl hb), owns_only hvm o2 fun b hb => hcn b (.inr hb), hap, fun b hb => (hz' b hb).1⟩
  refine (hon.tr (ho.weak fun b hb hS => ?_)).tr (o2.weak fun b hb hS => .inr (.inl hS))
  exact .inr (.inr (hz b hS).2)
theorem Only.then {S T : Nat → Prop} {a b c : World} (h : Only T a b) (k : Only S b c) (hS : ∀ k, k < a.heap.size → S k → T k) : Only T a c :=
  ⟨k.os.trans h.os, k.tape.trans h.tape, k.output.trans h.output, Nat.le_trans h.size k.size, fun i hi hs => (k.block i (Nat.lt_of_lt_of_le hi h.size) (fun hSi => hs (hS i hi hSi))).trans (h.block i hi hs)⟩
theorem and_ne {b : Bool} {x y : Int} (h : (b && (x != y)) = true) : b = true ∧ x ≠ y := by
  simpa using h
theorem map_gD {l : List Int} {i : Nat} (h : i < l.length) : (l.map (Value.int .i64))[i]? = some (.int .i64 (gD l i)) := by
  rw [List.getElem?_map, List.getElem?_eq_getElem h, gD_lt h]; rfl
theorem one_get {v u : Value} {j : Nat} (h : [v][j]? = some u) : j = 0 ∧ v = u := by
  rcases j with _ | j
  · exact ⟨rfl, by simpa using h⟩
  · simp at h

set_option maxRecDepth 100000 in
set_option maxHeartbeats 8000000 in
theorem read_any (db : Nat) (d : DeskD) (m : DMem) (ρ : Nat → Nat) (seen : List Int) (as_ : Option Addr) (cs : Nat) (w : World) (hd : DSt w db d m ρ) (hok : DOk d) (hs : Ints w (.slice as_ seen.length cs) seen) (hsb : ∀ x ∈ seen, I64 x) (hcp : d.copies.length < 5000) :
    Calls Try.prog 21 #[.pointer (some ⟨db, 0, none⟩), .slice as_ seen.length cs] w (ReadPost w db d m ρ seen) := by
  have hp2 := hok.p1
  have hp12 := hok.p2
  have hpn := hok.pn
  obtain ⟨av, cv, hvc⟩ := owns_form hd.cps.1
  obtain ⟨pg, cp, hvp, hpc⟩ := owns_pos hd.pat.1 (by omega)
  obtain ⟨lg, cl, hvl, hlc⟩ := owns_pos hd.loops.1 (by omega)
  have hdb := hd.desk
  have hmb := hd.marks
  rw [hvc, hvl] at hdb
  rw [hvp] at hmb
  have c0 := hdb.cell
  have c1 := hmb.cell
  have hpI := hd.pat.ints
  rw [hvp] at hpI
  have hslen := hs.len
  obtain ⟨sh1, cn1, hbp, ⟨hb1, hb2⟩, hbc, hmost⟩ := best_pair d.pat seen d.win
  have HMT := Lib.hid (fun w1 (hx : Ext w w1) => match_any d.pat seen (some ⟨pg, 0, none⟩) as_ cp cs d.win w1 (hpI.ext hx) (hs.ext hx) hok.good (by omega) hsb)
  have d5 : decide ((5000:Int) ≤ (d.copies.length:Int)) = false := decide_eq_false (by omega)
  have HN := Lib.hid (fun w1 (hx : Ext w w1) => none_any db ⟨m.mb, 0, none⟩ w1 (by rw [(hdb.ext hx).cell]; rfl))
  have HD := Lib.hid hd
  have HOK := Lib.hid hok
  have HDB := Lib.hid hdb
  have HMB := Lib.hid hmb
  have HBP := Lib.hid hbp
  have HBC := Lib.hid hbc
  have HVC := Lib.hid hvc
  have HVP := Lib.hid hvp
  have HVL := Lib.hid hvl
  have HPC := Lib.hid hpc
  have HLC := Lib.hid hlc
  have HSB := Lib.hid hsb
  clear hd hok hdb hmb hbp hbc hvc hvp hvl hpc hlc hsb
  clear hpI hs hmost
  go_enter Try.func21, Try.ntmps21
  go_wp2_with (first
    | (with_reducible refine wpList_allocA (t := 59) rfl rfl Try.zeroValue59 ?_
       rintro rb w1 hb1 hx1 hl1
       have c2 := (HDB.out.ext hx1).cell
       have c3 := (HMB.out.ext hx1).cell
       have hlr1 : w.heap.size ≤ rb := hl1
       have RB := Lib.hid hb1
       have HX := Lib.hid hx1
       clear hb1 hx1)
    | (go_at_call 42; refine (HN.out _ HX.out).mono ?_; rintro e w2 ⟨rfl, rfl⟩))
  clear hl1 c0 c1
  obtain ⟨er, her⟩ : ∃ er, readErr d seen = er := ⟨_, rfl⟩
  by_cases hso : seen.length ≤ 40 ∧ SeenOk seen
  · have her0 : er = 0 := by rw [← her]; unfold readErr; rw [if_neg (by omega), if_neg (fun h => h hso.2)]
    have hsbd : ∀ x ∈ seen, -100000 ≤ x ∧ x ≤ 200000 := fun x hx => by
      obtain ⟨i, hi, rfl⟩ := List.mem_iff_getElem.1 hx
      have := hso.2 i hi; omega
    obtain ⟨fl, hfl⟩ : ∃ fl, fitL d.pat seen d.win sh1 = fl := ⟨_, rfl⟩
    have hrf : rF d seen = fl := by unfold rF rB; rw [HBP.out]; exact hfl
    have hfll : fl.length = d.pat.length := by rw [← hfl]; simp [fitL]
    have hfb : ∀ i, i < d.pat.length → gD fl i = lostN ∨ (-100000 ≤ gD fl i ∧ gD fl i ≤ 200000) := fun i hi => by rw [← hfl]; exact fit_bd hsbd i hi
    have HM : Hid (Calls Try.prog 33 #[.agg #[.slice (some ⟨pg, 0, none⟩) d.pat.length cp, .int .i64 d.win], .slice as_ seen.length cs] w1 fun e w' => ∃ fg fc, e = .returned (.tuple #[.agg #[.int .i64 sh1, .int .i64 cn1, .slice (some ⟨fg, 0, none⟩) d.pat.length fc], .int .i64 0]) ∧
        (∀ i, i < d.pat.length → w'.cell? ⟨fg, i, none⟩ = some (.int .i64 (gD fl i))) ∧ w1.heap.size ≤ fg ∧ Ext w1 w') := (HMT.out w1 HX.out).mono fun e w' ⟨h, hx⟩ => by
      rcases h with ⟨e2, h1, rfl⟩ | ⟨h1, h2, v, rfl, hown⟩
      · rcases h1 with ⟨_, h⟩ | ⟨_, _, h⟩
        · omega
        · exact (h hso.2).elim
      · rw [HBP.out] at hown ⊢
        obtain ⟨fg, fc, rfl, hcc⟩ := owns_pos hown (by omega)
        refine ⟨fg, fc, rfl, fun i hi => ?_, (hown.lt fg rfl).1, hx⟩
        have hi' : i < fl.length := by omega
        exact hcc i _ (by rw [hfl, List.getElem?_map, List.getElem?_eq_getElem hi', ← gD_lt hi']; rfl)
    have HER := Lib.hid (her.trans her0)
    have hcb := cntL_bd (fitL d.pat seen d.win sh1)
    rw [hfl, hfll, ← hfl, ← HBC.out] at hcb
    obtain ⟨hcb1, hcb2⟩ := hcb
    have HSBD := Lib.hid hsbd
    have HFB := Lib.hid hfb
    have HRF := Lib.hid hrf
    clear hsbd hfb hrf
    clear her her0 hso hfl
    refine HM.out.mono ?_
    rintro e w4 ⟨fg, fc, rfl, hfc, hfg1, hx4⟩
    have hfgw := Nat.le_trans HX.out.size hfg1
    have hfgl : fg < w4.heap.size := World.block_lt_of_cell? w4 _ (hfc 0 (by omega))
    replace HX := Lib.hid (HX.out.ext hx4)
    replace RB := Lib.hid (RB.out.ext hx4)
    have HFC := Lib.hid hfc
    clear hfc
    clear hx4
    go_upto_region 8 with (first
      | (with_reducible refine wpList_allocA (t := 26) rfl rfl Try.zeroValue26 ?_
         rintro fb w5 hb5 hx5 hl5
         have hfbw := Nat.le_trans HX.out.size hl5
         have FB := Lib.hid hb5
         have G5 := Lib.hid hx5
         clear hb5 hx5)
      | (with_reducible refine wpList_storeK (ty := 26) (cells := #[.int .i64 sh1, .int .i64 cn1, .slice (some ⟨fg, 0, none⟩) d.pat.length fc]) rfl rfl FB.out ?_ ?_ ?_ ?_ ?_ ?_
         · rfl
         · rfl
         · kernel_rfl
         · rfl
         · simp [Value.oneCell']
         rintro w6 hb6 ho6
         have hx6 : Ext w4 w6 := G5.out.then_only ho6 (fun k (e : k = fb) => by omega)
         have hfg6 : fg < w6.heap.size := Nat.lt_of_lt_of_le hfgl hx6.size
         have hfc6 : ∀ i, i < d.pat.length → w6.cell? ⟨fg, i, none⟩ = some (.int .i64 (gD fl i)) := fun i hi => hx6.cellSome (HFC.out i hi)
         replace HX := Lib.hid (HX.out.ext hx6)
         replace RB := Lib.hid (RB.out.ext hx6)
         clear FB HFC
         have FB := Lib.hid hb6
         have HFC := Lib.hid hfc6
         clear hb6 hfc6
         clear G5 ho6 hx6))
    have HV : Hid (∀ W, Ext w6 W → (∀ i, W.cell? ⟨db, i, none⟩ = (#[.pointer (some ⟨m.mb, 0, none⟩), .slice (some ⟨lg, 0, none⟩) d.n cl, .int .i64 d.limit, .slice av d.copies.length cv] : Array Value)[i]?) ∧ (∀ i, W.cell? ⟨m.mb, i, none⟩ = (#[.slice (some ⟨pg, 0, none⟩) d.pat.length cp, .int .i64 d.win] : Array Value)[i]?)) := fun W hW =>
      ⟨((HDB.out.ext HX.out).ext hW).cell, ((HMB.out.ext HX.out).ext hW).cell⟩
    go_cut [8] (fun s8 W => s8 = .bool (rIs d seen) ∧ Hid (∃ n, W = w6.drewN n))
    case first =>
      as_aux_lemma =>
        obtain ⟨c7, c8⟩ := HV.out w6 (Below.refl _ _)
        have c9 := FB.out.cell
        have c10 := HFC.out 0 (by omega)
        obtain ⟨f0, hf0⟩ : ∃ f0, f0 = gD fl 0 := ⟨_, rfl⟩
        rw [← hf0] at c10
        have hri : rIs d seen = ((f0 != lostN) && decide ((d.pat.length:Int) ≤ 2 * cn1)) := by unfold rIs; rw [HRF.out, ← hf0]; unfold rB; rw [HBP.out]
        have HRI := Lib.hid hri
        have w1' : IntKind.i64.wrap (2 * cn1) = 2 * cn1 := i64_eq _ (by omega)
        have p0 : 0 < d.pat.length := by omega
        clear hri hf0
        by_cases hl0 : f0 = 1000000000
        · have e1 : (f0 != 1000000000) = false := by simp [hl0]
          have e2 : (f0 == 1000000000) = true := by simp [hl0]
          clear hl0
          go_quiet (fail)
          go_wp2
          go_meet
          case rel => exact ⟨by rw [HRI.out, e1]; rfl, ⟨nq, rfl⟩⟩
        · have e1 : (f0 != 1000000000) = true := by simp [hl0]
          have e2 : (f0 == 1000000000) = false := by simp [hl0]
          have e3 : Hid ((f0 != lostN) = true) := e1
          clear hl0
          by_cases hcn : (d.pat.length:Int) ≤ 2 * cn1
          · have e4 : decide ((d.pat.length:Int) ≤ 2 * cn1) = true := decide_eq_true hcn
            go_quiet (fail)
            go_wp2
            go_meet
            case rel => exact ⟨by rw [HRI.out, e3.out, decide_eq_true hcn]; rfl, ⟨nq, rfl⟩⟩
          · have e4 : decide ((d.pat.length:Int) ≤ 2 * cn1) = false := decide_eq_false hcn
            have e5 := Lib.hid e4
            go_quiet (fail)
            go_wp2
            go_meet
            case rel => exact ⟨by rw [HRI.out, e3.out, e5.out]; rfl, ⟨nq, rfl⟩⟩
    case rest =>
      as_aux_lemma =>
        obtain ⟨rfl, HW⟩ := hcut
        obtain ⟨wo, rfl⟩ : ∃ W, W = wc := ⟨wc, rfl⟩
        have HXC : Hid (Ext w6 wo) := by obtain ⟨n, hn⟩ := HW.out; rw [hn]; exact Ext.of_drewN _ _
        have his := HRF.out
        obtain ⟨is, his⟩ : ∃ is, is = rIs d seen := ⟨_, rfl⟩
        rw [← his]
        have HIS := Lib.hid his
        obtain ⟨c7, c8⟩ := HV.out wo HXC.out
        have c9 := (FB.out.ext HXC.out).cell
        have s1 : fb < wo.heap.size := (FB.out.ext HXC.out).lt
        have s2 : db < wo.heap.size := ((HDB.out.ext HX.out).ext HXC.out).lt
        have s3 : m.mb < wo.heap.size := ((HMB.out.ext HX.out).ext HXC.out).lt
        clear his
        go_upto_region 9 with (fail)
        go_region
        go_upto_if 77 with (fail)
        have cB : Blk (wo.alloc (Obj.cells #[.bool (cn1 == (d.pat.length:Int)), .int .i64 sh1, .slice none 0 0, .slice none 0 0] 59)).drew wo.heap.size #[.bool (cn1 == (d.pat.length:Int)), .int .i64 sh1, .slice none 0 0, .slice none 0 0] 59 := heap_alloc_new wo _
        have xB : Ext wo (wo.alloc (Obj.cells #[.bool (cn1 == (d.pat.length:Int)), .int .i64 sh1, .slice none 0 0, .slice none 0 0] 59)).drew := (ext_lit wo _ _).drew
        generalize (wo.alloc (Obj.cells #[.bool (cn1 == (d.pat.length:Int)), .int .i64 sh1, .slice none 0 0, .slice none 0 0] 59)).drew = wd at *
        have hcl : wo.heap.size ≤ wo.heap.size := Nat.le_refl _
        obtain ⟨cb, hcb⟩ : ∃ cb, wo.heap.size = cb := ⟨_, rfl⟩
        rw [hcb] at cB s1 s2 s3 ⊢
        have hcle : wo.heap.size ≤ cb := by omega
        have CB := Lib.hid cB
        have XB := Lib.hid xB
        clear cB xB
        clear hcb hcl c7 c8 c9
        obtain ⟨g0, hg0⟩ : ∃ g0, g0 = (is && (cn1 == (d.pat.length:Int))) := ⟨_, rfl⟩
        obtain ⟨s0, hs0⟩ : ∃ s0, s0 = (if is then sh1 else 0) := ⟨_, rfl⟩
        obtain ⟨ec, hec⟩ : ∃ ec : Int, ec = (if is then 0 else 4) := ⟨_, rfl⟩
        have HG0 := Lib.hid hg0
        have HS0 := Lib.hid hs0
        have HEC := Lib.hid hec
        clear hg0 hs0 hec
        go_cut [7] (fun s7 W => s7 = .int .i64 ec ∧ Hid (Ext wo W) ∧ Hid (Blk W cb #[.bool g0, .int .i64 s0, .slice none 0 0, .slice none 0 0] 59))
        case first =>
          as_aux_lemma =>
            clear his c2 c3
            rename_i hR hK
            cases is
            · refine wp_cond_true rfl ?_
              go_wp2_with (
                with_reducible refine wpList_storeK (ty := 59) (cells := #[.bool false, .int .i64 0, .slice none 0 0, .slice none 0 0]) rfl rfl CB.out ?_ ?_ ?_ ?_ ?_ ?_
                · rfl
                · rfl
                · kernel_rfl
                · rfl
                · simp [Value.oneCell']
                rintro w7 hb7 ho7
                have hx7 := XB.out.then_only ho7 (fun k (e : k = cb) => by omega)
                have HB7 := Lib.hid hb7
                have HX7 := Lib.hid hx7
                clear hb7 hx7
                clear ho7)
              go_meet
              case rel => exact ⟨by rw [HEC.out]; rfl, HX7.out, by rw [HG0.out, HS0.out]; exact HB7.out⟩
            · refine wp_cond_false rfl ?_
              refine wp_skip ?_
              refine hK _ _ ?_
              go_meet
              case rel => exact ⟨by rw [HEC.out]; rfl, XB.out, by rw [HG0.out, HS0.out]; exact CB.out⟩
        case rest =>
          as_aux_lemma =>
            obtain ⟨rfl, XE, CE⟩ := hcut
            obtain ⟨we, rfl⟩ : ∃ W, W = wc := ⟨wc, rfl⟩
            have hwe : Ext w6 we := HXC.out.tr XE.out
            have HXS := Lib.hid HXC.out.size
            have HDE := Lib.hid ((HD.out.ext HX.out).ext hwe)
            have FBE := Lib.hid (FB.out.ext hwe)
            have RBE := Lib.hid (RB.out.ext hwe)
            have FCE : Hid (∀ i, i < d.pat.length → we.cell? ⟨fg, i, none⟩ = some (.int .i64 (gD fl i))) := fun i hi => hwe.cellSome (HFC.out i hi)
            have I0 := Lib.hid (RdInv.start (seen := seen) HDE.out HOK.out.qn CE.out)
            have hcbl : cb < we.heap.size := CE.out.lt
            have c7 := (HDB.out.ext (HX.out.tr hwe)).cell
            have HRZ : Hid (ρ fb = 0 ∧ ρ fg = 0 ∧ fg ≠ cb) := ⟨Decidable.byContradiction fun h => by have := HD.out.hlt fb h; omega, Decidable.byContradiction fun h => by have := HD.out.hlt fg h; omega, by have := HXS.out; omega⟩
            have hfbc : fb < cb := s1
            have hcz : ρ cb = 0 := Decidable.byContradiction fun h => by have h1 := HD.out.hlt cb h; have h2 := HX.out.size; have h3 := HXS.out; omega
            have HCZ := Lib.hid hcz
            clear hcz
            have GE := Lib.hid hwe
            clear hwe
            clear CE XE HXC HW HV
            clear his c2 c3
            go_wp2
            clear c7
            go_loopw [84] (fun t wr => ∃ k : Nat, k ≤ d.n ∧ t = .int .i64 k ∧ Hid (RdInv we db cb d m ρ seen g0 s0 k wr)) (fun t _ => d.n - (intOf t).toNat)
            case atStart => exact ⟨0, Nat.zero_le _, rfl, I0.out⟩
            case round =>
              obtain ⟨k, hk, rfl, HI⟩ := hrel
              clear I0
              obtain ⟨mk, ρk, ve, vm, hdk, ⟨e1, e2, e3, e4, e5⟩, hro, hon, hcb, hve, hvm, hap, hz⟩ := HI.out
              clear HI
              obtain ⟨a1, c1, hv1⟩ := owns_form hve
              obtain ⟨a2, c2', hv2⟩ := owns_form hvm
              subst hv1 hv2
              by_cases hlt : k < d.n
              · have hsz := hon.size
                have hdb2 : Blk wr db #[.pointer (some ⟨m.mb, 0, none⟩), .slice (some ⟨lg, 0, none⟩) d.n cl, .int .i64 d.limit, .slice av d.copies.length cv] 102 := by
                  have := hdk.desk; rw [e1, e3, e4, HVL.out, HVC.out] at this; exact this
                have hmb2 : Blk wr m.mb #[.slice (some ⟨pg, 0, none⟩) d.pat.length cp, .int .i64 d.win] 85 := by
                  have := hdk.marks; rw [e1, e2, HVP.out] at this; exact this
                have hfb2 : Blk wr fb #[.int .i64 sh1, .int .i64 cn1, .slice (some ⟨fg, 0, none⟩) d.pat.length fc] 26 := FBE.out.only hon (fun h => h.elim (fun h => h HRZ.out.1) (fun h => h.elim (fun h => by omega) (fun h => by have := FBE.out.lt; omega)))
                have hlc2 := owns_at hdk.loops.1 (e3.trans HVL.out)
                have hpc2 := owns_at hdk.pat.1 (e2.trans HVP.out)
                have hfc2 : ∀ i, i < d.pat.length → wr.cell? ⟨fg, i, none⟩ = some (.int .i64 (gD fl i)) := fun i hi =>
                  hon.cell (FCE.out i hi) (fun h => h.elim (fun h => h HRZ.out.2.1) (fun h => h.elim (fun h => by have := HRZ.out.2.2; exact this h) (fun h => by have := World.block_lt_of_cell? we _ (FCE.out i hi); simp at this h; omega)))
                obtain ⟨ld, ln, lbl, ls, hlk⟩ : ∃ a b c e, d.loop k = ⟨a, b, c, e⟩ := ⟨_, _, _, _, rfl⟩
                have hlo := HOK.out.ok k hlt
                rw [hlk] at hlo
                unfold Loop.Ok at hlo
                dsimp only at hlo
                obtain ⟨⟨x1, x2⟩, ⟨x3, x4⟩, ⟨x5, x6⟩, x7, x8, x9⟩ := hlo
                have hcell : ∀ j, j < 5 → wr.cell? ⟨lg, k * 5 + j, none⟩ = (ctlC (d.loop k) (m.qb k))[j]? := fun j hj => by
                  have h1 : (ctlL (dAt d seen k).loops mk.qb (dAt d seen k).n)[k * 5 + j]? = (ctlC (d.loop k) (m.qb k))[j]? := by
                    rw [e5]; exact flat_get (z := 5) (fun i => rfl) _ k j hlt hj
                  obtain ⟨u, hu⟩ : ∃ u, (ctlC (d.loop k) (m.qb k))[j]? = some u := ⟨_, List.getElem?_eq_getElem (by simpa [ctlC] using hj)⟩
                  rw [hu] at h1 ⊢
                  exact hlc2 _ u h1
                rw [hlk] at hcell
                have l0 : wr.cell? ⟨lg, k * 5, none⟩ = some (.int .i64 ld) := hcell 0 (by omega)
                have l1 : wr.cell? ⟨lg, k * 5 + 1, none⟩ = some (.int .i64 ln) := hcell 1 (by omega)
                have l2 : wr.cell? ⟨lg, k * 5 + 2, none⟩ = some (.int .i64 lbl) := hcell 2 (by omega)
                have l3 : wr.cell? ⟨lg, k * 5 + 3, none⟩ = some (.int .i64 ls) := hcell 3 (by omega)
                have l4 : wr.cell? ⟨lg, k * 5 + 4, none⟩ = some (.pointer (some ⟨m.qb k, 0, none⟩)) := hcell 4 (by omega)
                have j1 : (0:Int) ≤ (k:Int) := by omega
                have j2 : (k:Int) < (d.n:Int) := by omega
                have j3 : (k:Int) ≤ 12 := by omega
                have hqb := HOK.out.qb k hlt
                have HLK := Lib.hid hlk
                have HQB := Lib.hid hqb
                have PC2 := Lib.hid hpc2
                have FC2 := Lib.hid hfc2
                have DB2 := Lib.hid hdb2
                have MB2 := Lib.hid hmb2
                have FB2 := Lib.hid hfb2
                have DK := Lib.hid hdk
                have HRO := Lib.hid hro
                have HON := Lib.hid hon
                have CB2 := Lib.hid hcb
                have VE := Lib.hid hve
                have VM := Lib.hid hvm
                have HAP := Lib.hid hap
                have HZ := Lib.hid hz
                clear hlk hqb hpc2 hfc2 hdb2 hmb2 hfb2 hdk hro hon hcb hve hvm hap hz
                have E1 := Lib.hid e1
                have E2 := Lib.hid e2
                have E3 := Lib.hid e3
                have E4 := Lib.hid e4
                have E5 := Lib.hid e5
                clear e1 e2 e3 e4 e5
                clear hcell hlc2
                go_upto_region 15 with (first
                  | (with_reducible refine wpList_allocA (t := 95) rfl rfl Try.zeroValue95 ?_
                     rintro tb w8 hb8 hx8 hl8
                     have m0 := hx8.cellSome l0
                     have m1 := hx8.cellSome l1
                     have m2 := hx8.cellSome l2
                     have m3 := hx8.cellSome l3
                     have m4 := hx8.cellSome l4
                     have TB := Lib.hid hb8
                     have G8 := Lib.hid hx8
                     clear hb8 hx8
                     clear l0 l1 l2 l3 l4)
                  | (with_reducible refine wpList_storeK (ty := 95) (cells := #[.int .i64 ld, .int .i64 ln, .int .i64 lbl, .int .i64 ls, .pointer (some ⟨m.qb k, 0, none⟩)]) rfl rfl TB.out ?_ ?_ ?_ ?_ ?_ ?_
                     · rfl
                     · rfl
                     · kernel_rfl
                     · rfl
                     · simp [Value.oneCell']
                     rintro w9 hb9 ho9
                     have hx9 : Ext wr w9 := G8.out.then_only ho9 (fun k (e : k = tb) => by omega)
                     clear TB G8 m0 m1 m2 m3 m4
                     have TB := Lib.hid hb9
                     have G9 := Lib.hid hx9
                     clear hb9 hx9
                     clear ho9))
                have c10 := (FB2.out.ext G9.out).cell
                obtain ⟨at1, hat⟩ : ∃ at1, at1 = gD fl (k + 1) := ⟨_, rfl⟩
                have c11 := G9.out.cellSome (FC2.out (k + 1) (by omega))
                rw [← hat] at c11
                have hab := HFB.out (k + 1) (by omega)
                rw [← hat] at hab
                have j4 : (k:Int) + 1 < (d.pat.length:Int) := by omega
                have j5 : k + 1 < d.pat.length := by omega
                have HAT := Lib.hid hat
                have HAB := Lib.hid hab
                clear hat hab
                go_upto_region 17 with (fail)
                obtain ⟨tt, htt⟩ : ∃ tt, tt = (is && (at1 != 1000000000)) := ⟨_, rfl⟩
                have HTT := Lib.hid htt
                clear htt
                clear c10 c11
                go_cut [99] (fun s W => s = .bool tt ∧ Hid (W = w9))
                case first =>
                  as_aux_lemma =>
                    cases is
                    · go_wp2
                      go_meet
                      case rel => exact ⟨by rw [HTT.out]; rfl, rfl⟩
                    · go_wp2
                      go_meet
                      case rel => exact ⟨by rw [HTT.out]; rfl, rfl⟩
                case rest =>
                  as_aux_lemma =>
                    obtain ⟨rfl, HWW⟩ := hcut
                    obtain rfl := HWW.out
                    clear HWW
                    obtain ⟨w9, rfl⟩ : ∃ W, W = wc := ⟨wc, rfl⟩
                    obtain ⟨xx, hxx⟩ : ∃ xx, xx = rErr d seen k := ⟨_, rfl⟩
                    have hxv : xx = if tt = true then at1 - gD fl 0 - (gD d.pat (k + 1) - gD d.pat 0) else lostN := by
                      rw [hxx, HTT.out, HAT.out]; unfold rErr
                      rw [HRF.out, ← HIS.out]
                      cases is <;> simp
                    have HXV := Lib.hid hxv
                    have HXX := Lib.hid hxx
                    clear hxv hxx
                    go_upto_if 99 with (fail)
                    go_cut [12] (fun s W => s = .int .i64 xx ∧ Hid (∃ n, W = w9.drewN n))
                    case first =>
                      as_aux_lemma =>
                        rename_i hR hK
                        cases tt
                        · have h1 : xx = lostN := by rw [HXV.out]; simp
                          have H1 := Lib.hid h1
                          clear h1
                          refine wp_cond_false rfl ?_
                          refine wp_skip ?_
                          refine hK _ _ ?_
                          go_meet
                          case rel => exact ⟨by rw [H1.out], 0, rfl⟩
                        · have h1 : xx = at1 - gD fl 0 - (gD d.pat (k + 1) - gD d.pat 0) := by rw [HXV.out, if_pos rfl]
                          have h2 := HTT.out
                          have h3 : is = true ∧ at1 ≠ 1000000000 := and_ne h2.symm
                          have h4 : gD fl 0 ≠ lostN := by rw [← HRF.out]; exact rIs_f0 (HIS.out.symm.trans h3.1)
                          have h5 := (HFB.out 0 (by omega)).resolve_left h4
                          have h6 := HAB.out.resolve_left h3.2
                          have p0 := HOK.out.good.2 0 (by omega)
                          have p1 := HOK.out.good.2 (k + 1) (by omega)
                          rw [← gD_lt (l := d.pat) (k := 0) (by omega)] at p0
                          rw [← gD_lt (l := d.pat) (k := k + 1) (by omega)] at p1
                          have q0 : wr.cell? ⟨pg, 0, none⟩ = some (.int .i64 (gD d.pat 0)) := PC2.out 0 _ (map_gD (l := d.pat) (i := 0) (by omega))
                          have q1 : wr.cell? ⟨pg, k + 1, none⟩ = some (.int .i64 (gD d.pat (k + 1))) := PC2.out (k + 1) _ (map_gD (l := d.pat) (i := k + 1) j5)
                          have q2 := FC2.out 0 (by omega)
                          obtain ⟨f0, hf0⟩ : ∃ f0, f0 = gD fl 0 := ⟨_, rfl⟩
                          obtain ⟨y0, hy0⟩ : ∃ y0, y0 = gD d.pat 0 := ⟨_, rfl⟩
                          obtain ⟨y1, hy1⟩ : ∃ y1, y1 = gD d.pat (k + 1) := ⟨_, rfl⟩
                          rw [← hf0] at h5 q2 h1
                          rw [← hy0] at p0 q0 h1
                          rw [← hy1] at p1 q1 h1
                          obtain ⟨h51, h52⟩ := h5
                          obtain ⟨h61, h62⟩ := h6
                          obtain ⟨p01, p02, _⟩ := p0
                          obtain ⟨p11, p12, _⟩ := p1
                          have c12 := (FB2.out.ext G9.out).cell
                          have c13 := (DB2.out.ext G9.out).cell
                          have c14 := (MB2.out.ext G9.out).cell
                          have r0 := G9.out.cellSome q0
                          have r1 := G9.out.cellSome q1
                          have r2 := G9.out.cellSome q2
                          have v1' : IntKind.i64.wrap (at1 - f0) = at1 - f0 := i64_eq _ (by omega)
                          have v2' : IntKind.i64.wrap (y1 - y0) = y1 - y0 := i64_eq _ (by omega)
                          have v3' : IntKind.i64.wrap (at1 - f0 - (y1 - y0)) = at1 - f0 - (y1 - y0) := i64_eq _ (by omega)
                          have p0' : 0 < d.pat.length := by omega
                          have H1 := Lib.hid h1
                          clear h1 h2 h3 h4 q0 q1 q2 hf0 hy0 hy1
                          refine wp_cond_true rfl ?_
                          go_quiet (fail)
                          go_wp2
                          go_meet
                          case rel => exact ⟨by rw [H1.out], ⟨nq, rfl⟩⟩
                    case rest =>
                      as_aux_lemma =>
                        obtain ⟨rfl, HW9⟩ := hcut
                        obtain ⟨wf, rfl⟩ : ∃ W, W = wc := ⟨wc, rfl⟩
                        have HX9 : Hid (Ext w9 wf) := by obtain ⟨n, hn⟩ := HW9.out; rw [hn]; exact Ext.of_drewN _ _
                        have c15 := (TB.out.ext HX9.out).cell
                        have hq0 := (DK.out.qst k hlt).ext (G9.out.tr HX9.out)
                        have hq1 : (dAt d seen k).q k = d.q k := by
                          show (qsAt d seen k).getD k [] = _
                          rw [qsAt_get d seen k k hlt, if_neg (by omega)]
                        rw [hq1, E5.out] at hq0
                        have hql := HOK.out.ql k hlt
                        rw [HLK.out] at hql
                        have hxb := rErr_bd HOK.out HSBD.out k hlt
                        rw [← HXX.out] at hxb
                        obtain ⟨hxb1, hxb2⟩ := hxb
                        unfold lostN at hxb2
                        have hdc := fun is => decide_any ⟨ld, ln, lbl, ls⟩ (m.qb k) (mk.g k) (d.q k) xx is wf hq0 (by dsimp only at hql; omega) HQB.out (by omega) ⟨by dsimp only; omega, by dsimp only; omega⟩
                        unfold ctl at hdc
                        dsimp only at hdc
                        have HDC := Lib.hid hdc
                        clear hdc
                        clear hq0 hql hq1
                        go_upto_region 20 with (
                          go_at_call 40
                          refine (HDC.out _).mono ?_
                          rintro e wg ⟨u, g', hu, rfl, hq', hg', ho'⟩
                          have HU := Lib.hid hu
                          have HQ' := Lib.hid hq'
                          have HG' := Lib.hid hg'
                          have HO' := Lib.hid ho'
                          clear hu hq' hg' ho')
                        have hwx := G9.out.tr HX9.out
                        have hrq := (DK.out.rq k hlt)
                        have hrg := (DK.out.rg k hlt)
                        rw [E5.out] at hrq
                        have hu : u = rMov d seen k := by
                          rw [HU.out]; unfold rMov
                          rw [← HXX.out, HLK.out]
                          by_cases h : xx = lostN
                          · rw [if_neg (by simp [h]), if_neg (fun hh => hh h)]
                          · rw [if_pos (by simp [h]), if_pos h]
                        obtain ⟨hd20, hold⟩ := (DK.out.ext hwx).put (qsAt_len d seen k) (i := k) hlt (g' := g') (q' := tlQ (d.q k) u) (by rw [E5.out]; exact HQ'.out) HG'.out (by rw [E5.out]; exact HO'.out)
                        have hda : ({ dAt d seen k with qs := (dAt d seen k).qs.set k (tlQ (d.q k) u) } : DeskD) = dAt d seen (k + 1) := by
                          unfold dAt; dsimp only; rw [hu, qsAt_succ d seen k hlt]
                        rw [hda] at hd20
                        have hnb : ∀ b, ρk b = 0 → ¬ (b = mk.g k ∨ b = m.qb k) := fun b hb h => by
                          rcases h with h | h
                          · rw [h, hrg] at hb; omega
                          · rw [h, hrq] at hb; omega
                        have hvz := fun b h => HZ.out b h
                        have hvl : ∀ b, ((Value.slice a1 k c1).ownBlock = some b ∨ (Value.slice a2 k c2').ownBlock = some b) → b < wr.heap.size ∧ we.heap.size ≤ b := fun b h => by
                          rcases h with h | h
                          · exact ⟨(VE.out.lt b h).2, (VE.out.lt b h).1⟩
                          · exact ⟨(VM.out.lt b h).2, (VM.out.lt b h).1⟩
                        have hveg := owns_only (owns_ext VE.out hwx) HO'.out (fun b hb => hnb b (hvz b (.inl hb)))
                        have hvmg := owns_only (owns_ext VM.out hwx) HO'.out (fun b hb => hnb b (hvz b (.inr hb)))
                        have hcbg := (CB2.out.ext hwx).only HO'.out (hnb cb ((HRO.out cb hcbl).trans HCZ.out))
                        have hong : Only (fun b => ρ b ≠ 0 ∨ b = cb ∨ we.heap.size ≤ b) we wg := (HON.out.tr (Only.of_ext hwx)).tr (HO'.out.weak fun b hb h => by
                          rcases Nat.lt_or_ge b we.heap.size with h1 | h1
                          · refine .inl ?_
                            rw [← HRO.out b h1]
                            rcases h with h | h
                            · rw [h, hrg]; omega
                            · rw [h, hrq]; omega
                          · exact .inr (.inr h1))
                        have hrog : ∀ b, b < we.heap.size → upd ρk g' (6 + 2 * k) b = ρ b := fun b hb => (hold b (by have := hsz; have := hwx.size; omega)).trans (HRO.out b hb)
                        have hzg : ∀ b, ((Value.slice a1 k c1).ownBlock = some b ∨ (Value.slice a2 k c2').ownBlock = some b) → upd ρk g' (6 + 2 * k) b = 0 ∧ we.heap.size ≤ b := fun b h => ⟨(hold b (by have := (hvl b h).1; have := hwx.size; omega)).trans (hvz b h), (hvl b h).2⟩
                        have hweg := hong.size
                        have c16 := hcbg.cell
                        have f16 := hcbg.free
                        have hcl16 := hcbg.lt
                        have D20 := Lib.hid hd20
                        have VEG := Lib.hid hveg
                        have VMG := Lib.hid hvmg
                        have CBG := Lib.hid hcbg
                        have ONG := Lib.hid hong
                        have ROG := Lib.hid hrog
                        have ZG := Lib.hid hzg
                        have HU2 := Lib.hid hu
                        clear hd20 hveg hvmg hcbg hong hrog hzg hu
                        clear hold hda hnb hvz hvl hrq hrg hwx c15
                        have hk13 : k ≤ 12 := by omega
                        have A0 : App2 wg wg we.heap.size cb #[.bool g0, .int .i64 s0, .slice a1 k c1, .slice a2 k c2'] 59 (.slice a1 k c1) (.slice a2 k c2') (.slice a1 k c1) (.slice a2 k c2') k k _ _ := App2.start hweg hcbl CBG.out VEG.out VMG.out HAP.out
                        have hwsz : wg.heap.size ≤ wg.drew.heap.size := by simp
                        have A1' := A0.ext (Below.refl _ wg).drew
                        clear A0 c16 f16 hcl16
                        refine wp_region_K (fun wx => wx.cell? ⟨cb, 2, none⟩ = some (.slice a1 k c1) ∧ wx.cell? ⟨cb, 3, none⟩ = some (.slice a2 k c2')) 11 (by kernel_rfl) ⟨A1'.cbk.cell 2, A1'.cbk.cell 3⟩ (fun hHeld => ?_)
                        generalize wg.drew = wA at *
                        have A2 := Lib.hid A1'
                        clear A1'
                        refine wpAnyK_takeL (i := 0) (v := ?_) rfl (by kernel_rfl) (by kernel_rfl) (by kernel_rfl) (by kernel_rfl) (fun _ _ _ h => h) (Or.inl ⟨by rfl, ?_⟩) hHeld ?_
                        rotate_left
                        · intro w hSw; (try dsimp only at hSw); go_simp; (try with_reducible rfl)
                        try simp only [Act.put, List.setIfInBounds_toArray, List.set_cons_zero, List.set_cons_succ]
                        refine wpAnyK_takeL (i := 1) (v := ?_) rfl (by kernel_rfl) (by kernel_rfl) (by kernel_rfl) (by kernel_rfl) (fun _ _ _ h => h) (Or.inl ⟨by rfl, ?_⟩) hHeld ?_
                        rotate_left
                        · intro w hSw; (try dsimp only at hSw); go_simp; (try with_reducible rfl)
                        try simp only [Act.put, List.setIfInBounds_toArray, List.set_cons_zero, List.set_cons_succ]
                        refine wpAnyK_takeL (i := 2) (v := ?_) rfl (by kernel_rfl) (by kernel_rfl) (by kernel_rfl) (by kernel_rfl) (fun _ _ _ h => h) (Or.inl ⟨by rfl, ?_⟩) hHeld ?_
                        rotate_left
                        · intro w hSw; (try dsimp only at hSw); go_simp; (try with_reducible rfl)
                        try simp only [Act.put, List.setIfInBounds_toArray, List.set_cons_zero, List.set_cons_succ]
                        refine wpAnyK_takeL (i := 5) (v := ?_) rfl (by kernel_rfl) (by kernel_rfl) (by kernel_rfl) (by kernel_rfl) (fun _ _ _ h => h) (Or.inl ⟨by rfl, ?_⟩) hHeld ?_
                        rotate_left
                        · intro w hSw; (try dsimp only at hSw); go_simp; (try with_reducible rfl)
                        try simp only [Act.put, List.setIfInBounds_toArray, List.set_cons_zero, List.set_cons_succ]
                        refine wpAnyK_takeL (i := 6) (v := ?_) rfl (by kernel_rfl) (by kernel_rfl) (by kernel_rfl) (by kernel_rfl) (fun _ _ _ h => h) (Or.inl ⟨by rfl, ?_⟩) hHeld ?_
                        rotate_left
                        · intro w hSw; (try dsimp only at hSw); go_simp; (try with_reducible rfl)
                        try simp only [Act.put, List.setIfInBounds_toArray, List.set_cons_zero, List.set_cons_succ]
                        refine wpAnyK_takeL (i := 7) (v := ?_) rfl (by kernel_rfl) (by kernel_rfl) (by kernel_rfl) (by kernel_rfl) (fun _ _ _ h => h) (Or.inl ⟨by rfl, ?_⟩) hHeld ?_
                        rotate_left
                        · intro w hSw; (try dsimp only at hSw); go_simp; (try with_reducible rfl)
                        try simp only [Act.put, List.setIfInBounds_toArray, List.set_cons_zero, List.set_cons_succ]
                        refine wpAnyK_ready (rs := [3, 8]) (by kernel_rfl) (by simp) ?_
                        refine AllReadyK.consL (i := 3) rfl (fun K hK => ?_) ?_
                        · refine step_build1 tInts rfl rfl (v := .int .i64 xx) rfl [.int .i64 xx] (by omega) rfl rfl ?_
                          intro b1 wb hx hl hb hc
                          have N1 := Nat.le_trans A2.out.only.size hl
                          replace A2 := Lib.hid (A2.out.ext hx)
                          have L1 := Lib.hid hc
                          try (replace L2 := Lib.hid (fun j u h => hx.cellSome (L2.out j u h)))
                          refine hK.out _ _ (fun _ => ⟨A2.out.cbk.cell 2, A2.out.cbk.cell 3⟩) (fun hHeld2 => ?_)
                          clear hK K
                          try clear hHeld
                          have hHeld := hHeld2 (by decide)
                          clear hHeld2
                          try simp only [Act.put, List.setIfInBounds_toArray, List.set_cons_zero, List.set_cons_succ]
                          clear hx hl hb hc
                          refine wpAnyK_ready (rs := [4, 8]) (by kernel_rfl) (by simp) ?_
                          refine AllReadyK.consL (i := 4) rfl (fun K hK => ?_) ?_
                          · skip
                            as_aux_lemma =>
                              refine step_app tInts (v := .slice a1 k c1) rfl rfl rfl A2.out.r1 rfl (cs := [.int .i64 xx]) rfl (by omega) L1.out (by simp [Value.oneCell']) (by omega) (Nat.le_trans A2.out.ble A2.out.only.size) ?_
                              intro v' wa q1 q2 q3 q4
                              obtain ⟨x1, y1, rfl⟩ := owns_form q1
                              try (replace L2 := Lib.hid (A2.out.lit1 q2 N2 L2.out))
                              replace A2 := Lib.hid (A2.out.app1 q1 q2 q3)
                              clear q1 q2 q3 q4 L1 N1
                              refine hK.out _ _ (fun _ => ⟨A2.out.cbk.cell 2, A2.out.cbk.cell 3⟩) (fun hHeld2 => ?_)
                              clear hK K
                              try clear hHeld
                              have hHeld := hHeld2 (by decide)
                              clear hHeld2
                              try simp only [Act.put, List.setIfInBounds_toArray, List.set_cons_zero, List.set_cons_succ]
                              refine wpAnyK_takeL (i := 10) (v := ?_) rfl (by kernel_rfl) (by kernel_rfl) (by kernel_rfl) (by kernel_rfl) (fun _ _ _ h => h) (Or.inl ⟨by rfl, ?_⟩) hHeld ?_
                              rotate_left
                              · intro w hSw; (try dsimp only at hSw); go_simp; (try with_reducible rfl)
                              try simp only [Act.put, List.setIfInBounds_toArray, List.set_cons_zero, List.set_cons_succ]
                              refine wpAnyK_ready (rs := [8]) (by kernel_rfl) (by simp) ?_
                              refine AllReadyK.consL (i := 8) rfl (fun K hK => ?_) ?_
                              · refine step_build1 tInts rfl rfl (v := .int .i64 u) rfl [.int .i64 u] (by omega) rfl rfl ?_
                                intro b2 wb hx hl hb hc
                                have N2 := Nat.le_trans A2.out.only.size hl
                                replace A2 := Lib.hid (A2.out.ext hx)
                                have L2 := Lib.hid hc
                                try (replace L1 := Lib.hid (fun j u h => hx.cellSome (L1.out j u h)))
                                refine hK.out _ _ (fun _ => ⟨A2.out.cbk.cell 2, A2.out.cbk.cell 3⟩) (fun hHeld2 => ?_)
                                clear hK K
                                try clear hHeld
                                have hHeld := hHeld2 (by decide)
                                clear hHeld2
                                try simp only [Act.put, List.setIfInBounds_toArray, List.set_cons_zero, List.set_cons_succ]
                                clear hx hl hb hc
                                refine wpAnyK_ready (rs := [9]) (by kernel_rfl) (by simp) ?_
                                refine AllReadyK.consL (i := 9) rfl (fun K hK => ?_) ?_
                                · refine step_app tInts (v := .slice a2 k c2') rfl rfl rfl A2.out.r2 rfl (cs := [.int .i64 u]) rfl (by omega) L2.out (by simp [Value.oneCell']) (by omega) (Nat.le_trans A2.out.ble A2.out.only.size) ?_
                                  intro v' wa q1 q2 q3 q4
                                  obtain ⟨x2, y2, rfl⟩ := owns_form q1
                                  replace A2 := Lib.hid (A2.out.app2 q1 q2 q3)
                                  clear q1 q2 q3 q4 L2 N2
                                  refine hK.out _ _ (fun _ => ⟨A2.out.cbk.cell 2, A2.out.cbk.cell 3⟩) (fun hHeld2 => ?_)
                                  clear hK K
                                  try clear hHeld
                                  have hHeld := hHeld2 (by decide)
                                  clear hHeld2
                                  try simp only [Act.put, List.setIfInBounds_toArray, List.set_cons_zero, List.set_cons_succ]
                                  clear hHeld
                                  refine wpAnyK_ready (rs := [11]) (by kernel_rfl) (by simp) ?_
                                  refine AllReadyK.consL (i := 11) rfl (fun K hK => ?_) ?_
                                  · refine step_setK (v := .slice x1 (k + 1) y1) rfl rfl A2.out.cbk rfl rfl (by simp) (by kernel_rfl) rfl (by simp [Value.oneCell']) ?_
                                    intro w1 hw1 hb1 ho1
                                    have HW1 := Lib.hid hw1
                                    clear hw1
                                    refine hK.out _ _ (fun h => absurd h (by decide)) (fun hHeld2 => ?_)
                                    clear hK K hHeld2
                                    try clear hHeld
                                    try simp only [Act.put, List.setIfInBounds_toArray, List.set_cons_zero, List.set_cons_succ]
                                    refine wpAnyK_ready (rs := [12]) (by kernel_rfl) (by simp) ?_
                                    refine AllReadyK.consL (i := 12) rfl (fun K hK => ?_) ?_
                                    · go_simp
                                      refine hK.out _ _ (fun h => absurd h (by decide)) (fun hHeld2 => ?_)
                                      clear hK K hHeld2
                                      try clear hHeld
                                      try simp only [Act.put, List.setIfInBounds_toArray, List.set_cons_zero, List.set_cons_succ]
                                      refine wpAnyK_ready (rs := [13]) (by kernel_rfl) (by simp) ?_
                                      refine AllReadyK.consL (i := 13) rfl (fun K hK => ?_) ?_
                                      · refine step_setK (v := .slice x2 (k + 1) y2) rfl rfl hb1 rfl rfl (by simp) (by kernel_rfl) rfl (by simp [Value.oneCell']) ?_
                                        intro w2 hw2 hb2 ho2
                                        have HW2 := Lib.hid hw2
                                        clear hw2
                                        refine hK.out _ _ (fun h => absurd h (by decide)) (fun hHeld2 => ?_)
                                        clear hK K hHeld2
                                        try clear hHeld
                                        try simp only [Act.put, List.setIfInBounds_toArray, List.set_cons_zero, List.set_cons_succ]
                                        refine wpAnyK_done (by kernel_rfl) ?_ _
                                        have hw2 := HW2.out
                                        have hw1 := HW1.out
                                        clear HW1 HW2
                                        subst hw2 hw1
                                        have hnx : RdInv we db cb d m ρ seen g0 s0 (k + 1) ((wa.setCell ⟨cb, 2, none⟩ (.slice x1 (k + 1) y1)).setCell ⟨cb, 3, none⟩ (.slice x2 (k + 1) y2)) := by
                                          refine RdInv.next (mk := { mk with g := upd mk.g k g' }) D20.out ⟨E1.out, E2.out, E3.out, E4.out, E5.out⟩ ROG.out ONG.out CBG.out hcbl HCZ.out ZG.out A2.out.only ?_ ?_ A2.out.f1 A2.out.f2 (fun h => ?_)
                                          · rw [rErrs_succ, ← HXX.out, List.map_append]; exact A2.out.r1
                                          · rw [rMovs_succ, ← HU2.out, List.map_append]; exact A2.out.r2
                                          · cases hv : (Value.slice x1 (k + 1) y1).ownBlock with
                                            | none => rfl
                                            | some b => exact (A2.out.dj b hv (h ▸ hv)).elim
                                        have HNX := Lib.hid hnx
                                        clear hnx
                                        generalize (wa.setCell ⟨cb, 2, none⟩ (Value.slice x1 (k + 1) y1)).setCell ⟨cb, 3, none⟩ (Value.slice x2 (k + 1) y2) = wn at *
                                        clear hb1 ho1 hb2 ho2 A2
                                        go_wp2
                                        go_roundw
                                        case rel => exact ⟨k + 1, by omega, by go_num, HNX.out⟩
                                        case measure => simp [intOf]; omega
                                      · exact AllReadyK.nil
                                    · exact AllReadyK.nil
                                  · exact AllReadyK.nil
                                · exact AllReadyK.nil
                              · exact AllReadyK.nil
                          refine AllReadyK.consL (i := 8) rfl (fun K hK => ?_) ?_
                          · refine step_build1 tInts rfl rfl (v := .int .i64 u) rfl [.int .i64 u] (by omega) rfl rfl ?_
                            intro b2 wb hx hl hb hc
                            have N2 := Nat.le_trans A2.out.only.size hl
                            replace A2 := Lib.hid (A2.out.ext hx)
                            have L2 := Lib.hid hc
                            try (replace L1 := Lib.hid (fun j u h => hx.cellSome (L1.out j u h)))
                            refine hK.out _ _ (fun _ => ⟨A2.out.cbk.cell 2, A2.out.cbk.cell 3⟩) (fun hHeld2 => ?_)
                            clear hK K
                            try clear hHeld
                            have hHeld := hHeld2 (by decide)
                            clear hHeld2
                            try simp only [Act.put, List.setIfInBounds_toArray, List.set_cons_zero, List.set_cons_succ]
                            clear hx hl hb hc
                            refine wpAnyK_ready (rs := [4]) (by kernel_rfl) (by simp) ?_
                            refine AllReadyK.consL (i := 4) rfl (fun K hK => ?_) ?_
                            · skip
                              as_aux_lemma =>
                                refine step_app tInts (v := .slice a1 k c1) rfl rfl rfl A2.out.r1 rfl (cs := [.int .i64 xx]) rfl (by omega) L1.out (by simp [Value.oneCell']) (by omega) (Nat.le_trans A2.out.ble A2.out.only.size) ?_
                                intro v' wa q1 q2 q3 q4
                                obtain ⟨x1, y1, rfl⟩ := owns_form q1
                                try (replace L2 := Lib.hid (A2.out.lit1 q2 N2 L2.out))
                                replace A2 := Lib.hid (A2.out.app1 q1 q2 q3)
                                clear q1 q2 q3 q4 L1 N1
                                refine hK.out _ _ (fun _ => ⟨A2.out.cbk.cell 2, A2.out.cbk.cell 3⟩) (fun hHeld2 => ?_)
                                clear hK K
                                try clear hHeld
                                have hHeld := hHeld2 (by decide)
                                clear hHeld2
                                try simp only [Act.put, List.setIfInBounds_toArray, List.set_cons_zero, List.set_cons_succ]
                                refine wpAnyK_takeL (i := 10) (v := ?_) rfl (by kernel_rfl) (by kernel_rfl) (by kernel_rfl) (by kernel_rfl) (fun _ _ _ h => h) (Or.inl ⟨by rfl, ?_⟩) hHeld ?_
                                rotate_left
                                · intro w hSw; (try dsimp only at hSw); go_simp; (try with_reducible rfl)
                                try simp only [Act.put, List.setIfInBounds_toArray, List.set_cons_zero, List.set_cons_succ]
                                refine wpAnyK_ready (rs := [9]) (by kernel_rfl) (by simp) ?_
                                refine AllReadyK.consL (i := 9) rfl (fun K hK => ?_) ?_
                                · refine step_app tInts (v := .slice a2 k c2') rfl rfl rfl A2.out.r2 rfl (cs := [.int .i64 u]) rfl (by omega) L2.out (by simp [Value.oneCell']) (by omega) (Nat.le_trans A2.out.ble A2.out.only.size) ?_
                                  intro v' wa q1 q2 q3 q4
                                  obtain ⟨x2, y2, rfl⟩ := owns_form q1
                                  replace A2 := Lib.hid (A2.out.app2 q1 q2 q3)
                                  clear q1 q2 q3 q4 L2 N2
                                  refine hK.out _ _ (fun _ => ⟨A2.out.cbk.cell 2, A2.out.cbk.cell 3⟩) (fun hHeld2 => ?_)
                                  clear hK K
                                  try clear hHeld
                                  have hHeld := hHeld2 (by decide)
                                  clear hHeld2
                                  try simp only [Act.put, List.setIfInBounds_toArray, List.set_cons_zero, List.set_cons_succ]
                                  clear hHeld
                                  refine wpAnyK_ready (rs := [11]) (by kernel_rfl) (by simp) ?_
                                  refine AllReadyK.consL (i := 11) rfl (fun K hK => ?_) ?_
                                  · refine step_setK (v := .slice x1 (k + 1) y1) rfl rfl A2.out.cbk rfl rfl (by simp) (by kernel_rfl) rfl (by simp [Value.oneCell']) ?_
                                    intro w1 hw1 hb1 ho1
                                    have HW1 := Lib.hid hw1
                                    clear hw1
                                    refine hK.out _ _ (fun h => absurd h (by decide)) (fun hHeld2 => ?_)
                                    clear hK K hHeld2
                                    try clear hHeld
                                    try simp only [Act.put, List.setIfInBounds_toArray, List.set_cons_zero, List.set_cons_succ]
                                    refine wpAnyK_ready (rs := [12]) (by kernel_rfl) (by simp) ?_
                                    refine AllReadyK.consL (i := 12) rfl (fun K hK => ?_) ?_
                                    · go_simp
                                      refine hK.out _ _ (fun h => absurd h (by decide)) (fun hHeld2 => ?_)
                                      clear hK K hHeld2
                                      try clear hHeld
                                      try simp only [Act.put, List.setIfInBounds_toArray, List.set_cons_zero, List.set_cons_succ]
                                      refine wpAnyK_ready (rs := [13]) (by kernel_rfl) (by simp) ?_
                                      refine AllReadyK.consL (i := 13) rfl (fun K hK => ?_) ?_
                                      · refine step_setK (v := .slice x2 (k + 1) y2) rfl rfl hb1 rfl rfl (by simp) (by kernel_rfl) rfl (by simp [Value.oneCell']) ?_
                                        intro w2 hw2 hb2 ho2
                                        have HW2 := Lib.hid hw2
                                        clear hw2
                                        refine hK.out _ _ (fun h => absurd h (by decide)) (fun hHeld2 => ?_)
                                        clear hK K hHeld2
                                        try clear hHeld
                                        try simp only [Act.put, List.setIfInBounds_toArray, List.set_cons_zero, List.set_cons_succ]
                                        refine wpAnyK_done (by kernel_rfl) ?_ _
                                        have hw2 := HW2.out
                                        have hw1 := HW1.out
                                        clear HW1 HW2
                                        subst hw2 hw1
                                        have hnx : RdInv we db cb d m ρ seen g0 s0 (k + 1) ((wa.setCell ⟨cb, 2, none⟩ (.slice x1 (k + 1) y1)).setCell ⟨cb, 3, none⟩ (.slice x2 (k + 1) y2)) := by
                                          refine RdInv.next (mk := { mk with g := upd mk.g k g' }) D20.out ⟨E1.out, E2.out, E3.out, E4.out, E5.out⟩ ROG.out ONG.out CBG.out hcbl HCZ.out ZG.out A2.out.only ?_ ?_ A2.out.f1 A2.out.f2 (fun h => ?_)
                                          · rw [rErrs_succ, ← HXX.out, List.map_append]; exact A2.out.r1
                                          · rw [rMovs_succ, ← HU2.out, List.map_append]; exact A2.out.r2
                                          · cases hv : (Value.slice x1 (k + 1) y1).ownBlock with
                                            | none => rfl
                                            | some b => exact (A2.out.dj b hv (h ▸ hv)).elim
                                        have HNX := Lib.hid hnx
                                        clear hnx
                                        generalize (wa.setCell ⟨cb, 2, none⟩ (Value.slice x1 (k + 1) y1)).setCell ⟨cb, 3, none⟩ (Value.slice x2 (k + 1) y2) = wn at *
                                        clear hb1 ho1 hb2 ho2 A2
                                        go_wp2
                                        go_roundw
                                        case rel => exact ⟨k + 1, by omega, by go_num, HNX.out⟩
                                        case measure => simp [intOf]; omega
                                      · exact AllReadyK.nil
                                    · exact AllReadyK.nil
                                  · exact AllReadyK.nil
                                · exact AllReadyK.nil
                            · exact AllReadyK.nil
                          · exact AllReadyK.nil
                        refine AllReadyK.consL (i := 8) rfl (fun K hK => ?_) ?_
                        · refine step_build1 tInts rfl rfl (v := .int .i64 u) rfl [.int .i64 u] (by omega) rfl rfl ?_
                          intro b2 wb hx hl hb hc
                          have N2 := Nat.le_trans A2.out.only.size hl
                          replace A2 := Lib.hid (A2.out.ext hx)
                          have L2 := Lib.hid hc
                          try (replace L1 := Lib.hid (fun j u h => hx.cellSome (L1.out j u h)))
                          refine hK.out _ _ (fun _ => ⟨A2.out.cbk.cell 2, A2.out.cbk.cell 3⟩) (fun hHeld2 => ?_)
                          clear hK K
                          try clear hHeld
                          have hHeld := hHeld2 (by decide)
                          clear hHeld2
                          try simp only [Act.put, List.setIfInBounds_toArray, List.set_cons_zero, List.set_cons_succ]
                          clear hx hl hb hc
                          refine wpAnyK_ready (rs := [3]) (by kernel_rfl) (by simp) ?_
                          refine AllReadyK.consL (i := 3) rfl (fun K hK => ?_) ?_
                          · refine step_build1 tInts rfl rfl (v := .int .i64 xx) rfl [.int .i64 xx] (by omega) rfl rfl ?_
                            intro b1 wb hx hl hb hc
                            have N1 := Nat.le_trans A2.out.only.size hl
                            replace A2 := Lib.hid (A2.out.ext hx)
                            have L1 := Lib.hid hc
                            try (replace L2 := Lib.hid (fun j u h => hx.cellSome (L2.out j u h)))
                            refine hK.out _ _ (fun _ => ⟨A2.out.cbk.cell 2, A2.out.cbk.cell 3⟩) (fun hHeld2 => ?_)
                            clear hK K
                            try clear hHeld
                            have hHeld := hHeld2 (by decide)
                            clear hHeld2
                            try simp only [Act.put, List.setIfInBounds_toArray, List.set_cons_zero, List.set_cons_succ]
                            clear hx hl hb hc
                            refine wpAnyK_ready (rs := [4]) (by kernel_rfl) (by simp) ?_
                            refine AllReadyK.consL (i := 4) rfl (fun K hK => ?_) ?_
                            · skip
                              as_aux_lemma =>
                                refine step_app tInts (v := .slice a1 k c1) rfl rfl rfl A2.out.r1 rfl (cs := [.int .i64 xx]) rfl (by omega) L1.out (by simp [Value.oneCell']) (by omega) (Nat.le_trans A2.out.ble A2.out.only.size) ?_
                                intro v' wa q1 q2 q3 q4
                                obtain ⟨x1, y1, rfl⟩ := owns_form q1
                                try (replace L2 := Lib.hid (A2.out.lit1 q2 N2 L2.out))
                                replace A2 := Lib.hid (A2.out.app1 q1 q2 q3)
                                clear q1 q2 q3 q4 L1 N1
                                refine hK.out _ _ (fun _ => ⟨A2.out.cbk.cell 2, A2.out.cbk.cell 3⟩) (fun hHeld2 => ?_)
                                clear hK K
                                try clear hHeld
                                have hHeld := hHeld2 (by decide)
                                clear hHeld2
                                try simp only [Act.put, List.setIfInBounds_toArray, List.set_cons_zero, List.set_cons_succ]
                                refine wpAnyK_takeL (i := 10) (v := ?_) rfl (by kernel_rfl) (by kernel_rfl) (by kernel_rfl) (by kernel_rfl) (fun _ _ _ h => h) (Or.inl ⟨by rfl, ?_⟩) hHeld ?_
                                rotate_left
                                · intro w hSw; (try dsimp only at hSw); go_simp; (try with_reducible rfl)
                                try simp only [Act.put, List.setIfInBounds_toArray, List.set_cons_zero, List.set_cons_succ]
                                refine wpAnyK_ready (rs := [9]) (by kernel_rfl) (by simp) ?_
                                refine AllReadyK.consL (i := 9) rfl (fun K hK => ?_) ?_
                                · refine step_app tInts (v := .slice a2 k c2') rfl rfl rfl A2.out.r2 rfl (cs := [.int .i64 u]) rfl (by omega) L2.out (by simp [Value.oneCell']) (by omega) (Nat.le_trans A2.out.ble A2.out.only.size) ?_
                                  intro v' wa q1 q2 q3 q4
                                  obtain ⟨x2, y2, rfl⟩ := owns_form q1
                                  replace A2 := Lib.hid (A2.out.app2 q1 q2 q3)
                                  clear q1 q2 q3 q4 L2 N2
                                  refine hK.out _ _ (fun _ => ⟨A2.out.cbk.cell 2, A2.out.cbk.cell 3⟩) (fun hHeld2 => ?_)
                                  clear hK K
                                  try clear hHeld
                                  have hHeld := hHeld2 (by decide)
                                  clear hHeld2
                                  try simp only [Act.put, List.setIfInBounds_toArray, List.set_cons_zero, List.set_cons_succ]
                                  clear hHeld
                                  refine wpAnyK_ready (rs := [11]) (by kernel_rfl) (by simp) ?_
                                  refine AllReadyK.consL (i := 11) rfl (fun K hK => ?_) ?_
                                  · refine step_setK (v := .slice x1 (k + 1) y1) rfl rfl A2.out.cbk rfl rfl (by simp) (by kernel_rfl) rfl (by simp [Value.oneCell']) ?_
                                    intro w1 hw1 hb1 ho1
                                    have HW1 := Lib.hid hw1
                                    clear hw1
                                    refine hK.out _ _ (fun h => absurd h (by decide)) (fun hHeld2 => ?_)
                                    clear hK K hHeld2
                                    try clear hHeld
                                    try simp only [Act.put, List.setIfInBounds_toArray, List.set_cons_zero, List.set_cons_succ]
                                    refine wpAnyK_ready (rs := [12]) (by kernel_rfl) (by simp) ?_
                                    refine AllReadyK.consL (i := 12) rfl (fun K hK => ?_) ?_
                                    · go_simp
                                      refine hK.out _ _ (fun h => absurd h (by decide)) (fun hHeld2 => ?_)
                                      clear hK K hHeld2
                                      try clear hHeld
                                      try simp only [Act.put, List.setIfInBounds_toArray, List.set_cons_zero, List.set_cons_succ]
                                      refine wpAnyK_ready (rs := [13]) (by kernel_rfl) (by simp) ?_
                                      refine AllReadyK.consL (i := 13) rfl (fun K hK => ?_) ?_
                                      · refine step_setK (v := .slice x2 (k + 1) y2) rfl rfl hb1 rfl rfl (by simp) (by kernel_rfl) rfl (by simp [Value.oneCell']) ?_
                                        intro w2 hw2 hb2 ho2
                                        have HW2 := Lib.hid hw2
                                        clear hw2
                                        refine hK.out _ _ (fun h => absurd h (by decide)) (fun hHeld2 => ?_)
                                        clear hK K hHeld2
                                        try clear hHeld
                                        try simp only [Act.put, List.setIfInBounds_toArray, List.set_cons_zero, List.set_cons_succ]
                                        refine wpAnyK_done (by kernel_rfl) ?_ _
                                        have hw2 := HW2.out
                                        have hw1 := HW1.out
                                        clear HW1 HW2
                                        subst hw2 hw1
                                        have hnx : RdInv we db cb d m ρ seen g0 s0 (k + 1) ((wa.setCell ⟨cb, 2, none⟩ (.slice x1 (k + 1) y1)).setCell ⟨cb, 3, none⟩ (.slice x2 (k + 1) y2)) := by
                                          refine RdInv.next (mk := { mk with g := upd mk.g k g' }) D20.out ⟨E1.out, E2.out, E3.out, E4.out, E5.out⟩ ROG.out ONG.out CBG.out hcbl HCZ.out ZG.out A2.out.only ?_ ?_ A2.out.f1 A2.out.f2 (fun h => ?_)
                                          · rw [rErrs_succ, ← HXX.out, List.map_append]; exact A2.out.r1
                                          · rw [rMovs_succ, ← HU2.out, List.map_append]; exact A2.out.r2
                                          · cases hv : (Value.slice x1 (k + 1) y1).ownBlock with
                                            | none => rfl
                                            | some b => exact (A2.out.dj b hv (h ▸ hv)).elim
                                        have HNX := Lib.hid hnx
                                        clear hnx
                                        generalize (wa.setCell ⟨cb, 2, none⟩ (Value.slice x1 (k + 1) y1)).setCell ⟨cb, 3, none⟩ (Value.slice x2 (k + 1) y2) = wn at *
                                        clear hb1 ho1 hb2 ho2 A2
                                        go_wp2
                                        go_roundw
                                        case rel => exact ⟨k + 1, by omega, by go_num, HNX.out⟩
                                        case measure => simp [intOf]; omega
                                      · exact AllReadyK.nil
                                    · exact AllReadyK.nil
                                  · exact AllReadyK.nil
                                · exact AllReadyK.nil
                            · exact AllReadyK.nil
                          · exact AllReadyK.nil
                        · exact AllReadyK.nil
              · obtain rfl : k = d.n := by omega
                as_aux_lemma =>
                  obtain ⟨wz, rfl⟩ : ∃ W, W = wr := ⟨wr, rfl⟩
                  have hdb2 : Blk wz db #[.pointer (some ⟨m.mb, 0, none⟩), .slice (some ⟨lg, 0, none⟩) d.n cl, .int .i64 d.limit, .slice av d.copies.length cv] 102 := by
                    have := hdk.desk; rw [e1, e3, e4, HVL.out, HVC.out] at this; exact this
                  have hne : ¬ db = cb := fun h => by have h1 := hdk.rdb; rw [h, hro cb hcbl, HCZ.out] at h1; cases h1
                  obtain ⟨g1, hg1⟩ : ∃ g1, g1 = (g0 && decide (farL (rErrs d seen d.n) ≤ d.limit)) := ⟨_, rfl⟩
                  obtain ⟨ff, hff⟩ : ∃ ff, ff = farL (rErrs d seen d.n) := ⟨_, rfl⟩
                  rw [← hff] at hg1
                  obtain ⟨bb, hbb⟩ : ∃ bb, decide (ff ≤ d.limit) = bb := ⟨_, rfl⟩
                  rw [hbb] at hg1
                  have hve2 : Ints wz (.slice a1 d.n c1) (rErrs d seen d.n) := Sl.of_owns hve
                  have hel : ∀ x ∈ rErrs d seen d.n, -9223372036854775807 ≤ x ∧ x ≤ 9223372036854775807 := fun x hx => by
                    obtain ⟨i, hi, rfl⟩ := List.mem_map.1 hx
                    have := rErr_bd HOK.out HSBD.out i (by simpa using hi)
                    unfold lostN at this
                    omega
                  have hwsz := hdb2.lt
                  have HG1 := Lib.hid hg1
                  have HFF := Lib.hid hff
                  have HBB := Lib.hid hbb
                  have DB2 := Lib.hid hdb2
                  have VE2 := Lib.hid hve2
                  have HEL := Lib.hid hel
                  have HNE := Lib.hid hne
                  have DK := Lib.hid hdk
                  have HRO := Lib.hid hro
                  have HON := Lib.hid hon
                  have CB2 := Lib.hid hcb
                  have VE := Lib.hid hve
                  have VM := Lib.hid hvm
                  have HAP := Lib.hid hap
                  have HZ := Lib.hid hz
                  have E1 := Lib.hid e1
                  have E2 := Lib.hid e2
                  have E3 := Lib.hid e3
                  have E4 := Lib.hid e4
                  have E5 := Lib.hid e5
                  clear hg1 hff hbb hdb2 hve2 hel hne hdk hro hon hcb hve hvm hap hz e1 e2 e3 e4 e5
                  go_upto_region 22 with (fail)
                  go_cut [] (fun W => Hid (Blk W cb #[.bool g1, .int .i64 s0, .slice a1 d.n c1, .slice a2 d.n c2'] 59) ∧ Hid (Only (fun b => b = cb) wz W))
                  case first =>
                    as_aux_lemma =>
                      have hxd : Ext wz wz.drew := (Below.refl _ wz).drew
                      have hcd := CB2.out.ext hxd
                      have hdd := DB2.out.ext hxd
                      have hvd := VE2.out.ext hxd
                      have hod : Only (fun b => b = cb) wz wz.drew := Only.of_ext hxd
                      refine wp_region_K (fun wx => (wx.cell? ⟨cb, 0, none⟩ = some (.bool g0) ∧ wx.cell? ⟨cb, 2, none⟩ = some (.slice a1 d.n c1)) ∧ wx.cell? ⟨db, 2, none⟩ = some (.int .i64 d.limit)) 12 (by kernel_rfl) ⟨⟨hcd.cell 0, hcd.cell 2⟩, hdd.cell 2⟩ (fun hHeld => ?_)
                      generalize wz.drew = wA at *
                      have HCD := Lib.hid hcd
                      have HVD := Lib.hid hvd
                      have HOD := Lib.hid hod
                      have HDD := Lib.hid hdd
                      clear hcd hvd hod hdd
                      clear hxd
                      have e0 : (0:Nat) < 4 := by omega
                      refine wpAnyK_takeL (i := 0) (v := ?_) rfl (by kernel_rfl) (by kernel_rfl) (by kernel_rfl) (by kernel_rfl) (fun _ _ _ h => h) (Or.inl ⟨by rfl, ?_⟩) hHeld ?_
                      rotate_left
                      · intro w hSw; (try dsimp only at hSw); go_simp; (try with_reducible rfl)
                      try simp only [Act.put, List.setIfInBounds_toArray, List.set_cons_zero, List.set_cons_succ]
                      refine wpAnyK_takeL (i := 1) (v := ?_) rfl (by kernel_rfl) (by kernel_rfl) (by kernel_rfl) (by kernel_rfl) (fun _ _ _ h => h) (Or.inl ⟨by rfl, ?_⟩) hHeld ?_
                      rotate_left
                      · intro w hSw; (try dsimp only at hSw); go_simp; (try with_reducible rfl)
                      try simp only [Act.put, List.setIfInBounds_toArray, List.set_cons_zero, List.set_cons_succ]
                      refine wpAnyK_takeL (i := 2) (v := ?_) rfl (by kernel_rfl) (by kernel_rfl) (by kernel_rfl) (by kernel_rfl) (fun _ _ _ h => h) (Or.inl ⟨by rfl, ?_⟩) hHeld ?_
                      rotate_left
                      · intro w hSw; (try dsimp only at hSw); go_simp; (try with_reducible rfl)
                      try simp only [Act.put, List.setIfInBounds_toArray, List.set_cons_zero, List.set_cons_succ]
                      cases g0
                      · refine wpAnyK_takeL (i := 3) (v := undef) rfl (by kernel_rfl) (by kernel_rfl) (by kernel_rfl) (by kernel_rfl) (fun _ _ _ h => h) (Or.inr ⟨by rfl, rfl⟩) hHeld ?_
                        try simp only [Act.put, List.setIfInBounds_toArray, List.set_cons_zero, List.set_cons_succ]
                        refine wpAnyK_takeL (i := 4) (v := undef) rfl (by kernel_rfl) (by kernel_rfl) (by kernel_rfl) (by kernel_rfl) (fun _ _ _ h => h) (Or.inr ⟨by rfl, rfl⟩) hHeld ?_
                        try simp only [Act.put, List.setIfInBounds_toArray, List.set_cons_zero, List.set_cons_succ]
                        refine wpAnyK_takeL (i := 5) (v := undef) rfl (by kernel_rfl) (by kernel_rfl) (by kernel_rfl) (by kernel_rfl) (fun _ _ _ h => h) (Or.inr ⟨by rfl, rfl⟩) hHeld ?_
                        try simp only [Act.put, List.setIfInBounds_toArray, List.set_cons_zero, List.set_cons_succ]
                        refine wpAnyK_takeL (i := 6) (v := undef) rfl (by kernel_rfl) (by kernel_rfl) (by kernel_rfl) (by kernel_rfl) (fun _ _ _ h => h) (Or.inr ⟨by rfl, rfl⟩) hHeld ?_
                        try simp only [Act.put, List.setIfInBounds_toArray, List.set_cons_zero, List.set_cons_succ]
                        refine wpAnyK_takeL (i := 7) (v := undef) rfl (by kernel_rfl) (by kernel_rfl) (by kernel_rfl) (by kernel_rfl) (fun _ _ _ h => h) (Or.inr ⟨by rfl, rfl⟩) hHeld ?_
                        try simp only [Act.put, List.setIfInBounds_toArray, List.set_cons_zero, List.set_cons_succ]
                        refine wpAnyK_takeL (i := 8) (v := undef) rfl (by kernel_rfl) (by kernel_rfl) (by kernel_rfl) (by kernel_rfl) (fun _ _ _ h => h) (Or.inr ⟨by rfl, rfl⟩) hHeld ?_
                        try simp only [Act.put, List.setIfInBounds_toArray, List.set_cons_zero, List.set_cons_succ]
                        refine wpAnyK_takeL (i := 9) (v := undef) rfl (by kernel_rfl) (by kernel_rfl) (by kernel_rfl) (by kernel_rfl) (fun _ _ _ h => h) (Or.inr ⟨by rfl, rfl⟩) hHeld ?_
                        try simp only [Act.put, List.setIfInBounds_toArray, List.set_cons_zero, List.set_cons_succ]
                        refine wpAnyK_takeL (i := 10) (v := undef) rfl (by kernel_rfl) (by kernel_rfl) (by kernel_rfl) (by kernel_rfl) (fun _ _ _ h => h) (Or.inr ⟨by rfl, rfl⟩) hHeld ?_
                        try simp only [Act.put, List.setIfInBounds_toArray, List.set_cons_zero, List.set_cons_succ]
                        refine wpAnyK_takeL (i := 11) (v := ?_) rfl (by kernel_rfl) (by kernel_rfl) (by kernel_rfl) (by kernel_rfl) (fun _ _ _ h => h) (Or.inl ⟨by rfl, ?_⟩) hHeld ?_
                        rotate_left
                        · intro w hSw; (try dsimp only at hSw); go_simp; (try with_reducible rfl)
                        try simp only [Act.put, List.setIfInBounds_toArray, List.set_cons_zero, List.set_cons_succ]
                        refine wpAnyK_ready (rs := [12]) (by kernel_rfl) (by simp) ?_
                        refine AllReadyK.consL (i := 12) rfl (fun K hK => ?_) ?_
                        · go_simp
                          refine hK.out _ _ (fun h => absurd h (by decide)) (fun hHeld2 => ?_)
                          clear hK K hHeld2
                          try clear hHeld
                          try simp only [Act.put, List.setIfInBounds_toArray, List.set_cons_zero, List.set_cons_succ]
                          refine wpAnyK_ready (rs := [13]) (by kernel_rfl) (by simp) ?_
                          refine AllReadyK.consL (i := 13) rfl (fun K hK => ?_) ?_
                          · refine step_setK (v := .bool _) rfl rfl HCD.out rfl rfl (by simp) (by kernel_rfl) rfl (by simp [Value.oneCell']) ?_
                            intro w1 hw1 hb1 ho1
                            refine hK.out _ _ (fun h => absurd h (by decide)) (fun hHeld2 => ?_)
                            clear hK K hHeld2
                            try clear hHeld
                            try simp only [Act.put, List.setIfInBounds_toArray, List.set_cons_zero, List.set_cons_succ]
                            refine wpAnyK_done (by kernel_rfl) ?_ _
                            have hcut : Blk w1 cb #[.bool g1, .int .i64 s0, .slice a1 d.n c1, .slice a2 d.n c2'] 59 := by rw [HG1.out]; exact hb1
                            have hocut := HOD.out.tr ho1
                            have HCUT := Lib.hid hcut
                            have HOCUT := Lib.hid hocut
                            clear hcut hocut
                            clear hb1 ho1
                            go_wp2
                            go_meet
                            case rel => exact ⟨HCUT.out, HOCUT.out⟩
                          · exact AllReadyK.nil
                        · exact AllReadyK.nil
                      · refine wpAnyK_takeL (i := 3) (v := ?_) rfl (by kernel_rfl) (by kernel_rfl) (by kernel_rfl) (by kernel_rfl) (fun _ _ _ h => h) (Or.inl ⟨by rfl, ?_⟩) hHeld ?_
                        rotate_left
                        · intro w hSw; (try dsimp only at hSw); go_simp; (try with_reducible rfl)
                        try simp only [Act.put, List.setIfInBounds_toArray, List.set_cons_zero, List.set_cons_succ]
                        refine wpAnyK_takeL (i := 4) (v := ?_) rfl (by kernel_rfl) (by kernel_rfl) (by kernel_rfl) (by kernel_rfl) (fun _ _ _ h => h) (Or.inl ⟨by rfl, ?_⟩) hHeld ?_
                        rotate_left
                        · intro w hSw; (try dsimp only at hSw); go_simp; (try with_reducible rfl)
                        try simp only [Act.put, List.setIfInBounds_toArray, List.set_cons_zero, List.set_cons_succ]
                        refine wpAnyK_takeL (i := 6) (v := ?_) rfl (by kernel_rfl) (by kernel_rfl) (by kernel_rfl) (by kernel_rfl) (fun _ _ _ h => h) (Or.inl ⟨by rfl, ?_⟩) hHeld ?_
                        rotate_left
                        · intro w hSw; (try dsimp only at hSw); go_simp; (try with_reducible rfl)
                        try simp only [Act.put, List.setIfInBounds_toArray, List.set_cons_zero, List.set_cons_succ]
                        refine wpAnyK_takeL (i := 7) (v := ?_) rfl (by kernel_rfl) (by kernel_rfl) (by kernel_rfl) (by kernel_rfl) (fun _ _ _ h => h) (Or.inl ⟨by rfl, ?_⟩) hHeld ?_
                        rotate_left
                        · intro w hSw; (try dsimp only at hSw); go_simp; (try with_reducible rfl)
                        try simp only [Act.put, List.setIfInBounds_toArray, List.set_cons_zero, List.set_cons_succ]
                        refine wpAnyK_takeL (i := 8) (v := ?_) rfl (by kernel_rfl) (by kernel_rfl) (by kernel_rfl) (by kernel_rfl) (fun _ _ _ h => h) (Or.inl ⟨by rfl, ?_⟩) hHeld ?_
                        rotate_left
                        · intro w hSw; (try dsimp only at hSw); go_simp; (try with_reducible rfl)
                        try simp only [Act.put, List.setIfInBounds_toArray, List.set_cons_zero, List.set_cons_succ]
                        refine wpAnyK_takeL (i := 9) (v := ?_) rfl (by kernel_rfl) (by kernel_rfl) (by kernel_rfl) (by kernel_rfl) (fun _ _ _ h => h) (Or.inl ⟨by rfl, ?_⟩) hHeld ?_
                        rotate_left
                        · intro w hSw; (try dsimp only at hSw); go_simp; (try with_reducible rfl)
                        try simp only [Act.put, List.setIfInBounds_toArray, List.set_cons_zero, List.set_cons_succ]
                        refine wpAnyK_ready (rs := [5]) (by kernel_rfl) (by simp) ?_
                        refine AllReadyK.consL (i := 5) rfl (fun K hK => ?_) ?_
                        · go_simp
                          go_at_call 38
                          refine (far_any _ _ _ HVD.out HEL.out).mono ?_
                          rintro e wq ⟨rfl, rfl⟩
                          rw [← HFF.out]
                          dsimp only
                          refine hK.out _ _ (fun _ => ⟨⟨HCD.out.cell 0, HCD.out.cell 2⟩, HDD.out.cell 2⟩) (fun hHeld2 => ?_)
                          clear hK K
                          try clear hHeld
                          have hHeld := hHeld2 (by decide)
                          clear hHeld2
                          try simp only [Act.put, List.setIfInBounds_toArray, List.set_cons_zero, List.set_cons_succ]
                          have hbb := HBB.out
                          refine wpAnyK_takeL (i := 10) (v := ?_) rfl (by kernel_rfl) (by kernel_rfl) (by kernel_rfl) (by kernel_rfl) (fun _ _ _ h => h) (Or.inl ⟨by rfl, ?_⟩) hHeld ?_
                          rotate_left
                          · intro w hSw; (try dsimp only at hSw); go_simp; (try with_reducible rfl)
                          try simp only [Act.put, List.setIfInBounds_toArray, List.set_cons_zero, List.set_cons_succ]
                          clear hbb
                          refine wpAnyK_takeL (i := 11) (v := ?_) rfl (by kernel_rfl) (by kernel_rfl) (by kernel_rfl) (by kernel_rfl) (fun _ _ _ h => h) (Or.inl ⟨by rfl, ?_⟩) hHeld ?_
                          rotate_left
                          · intro w hSw; (try dsimp only at hSw); go_simp; (try with_reducible rfl)
                          try simp only [Act.put, List.setIfInBounds_toArray, List.set_cons_zero, List.set_cons_succ]
                          refine wpAnyK_ready (rs := [12]) (by kernel_rfl) (by simp) ?_
                          refine AllReadyK.consL (i := 12) rfl (fun K hK => ?_) ?_
                          · go_simp
                            refine hK.out _ _ (fun h => absurd h (by decide)) (fun hHeld2 => ?_)
                            clear hK K hHeld2
                            try clear hHeld
                            try simp only [Act.put, List.setIfInBounds_toArray, List.set_cons_zero, List.set_cons_succ]
                            refine wpAnyK_ready (rs := [13]) (by kernel_rfl) (by simp) ?_
                            refine AllReadyK.consL (i := 13) rfl (fun K hK => ?_) ?_
                            · refine step_setK (v := .bool _) rfl rfl HCD.out rfl rfl (by simp) (by kernel_rfl) rfl (by simp [Value.oneCell']) ?_
                              intro w1 hw1 hb1 ho1
                              refine hK.out _ _ (fun h => absurd h (by decide)) (fun hHeld2 => ?_)
                              clear hK K hHeld2
                              try clear hHeld
                              try simp only [Act.put, List.setIfInBounds_toArray, List.set_cons_zero, List.set_cons_succ]
                              refine wpAnyK_done (by kernel_rfl) ?_ _
                              have hcut : Blk w1 cb #[.bool g1, .int .i64 s0, .slice a1 d.n c1, .slice a2 d.n c2'] 59 := by rw [HG1.out]; exact hb1
                              have hocut := HOD.out.tr ho1
                              have HCUT := Lib.hid hcut
                              have HOCUT := Lib.hid hocut
                              clear hcut hocut
                              clear hb1 ho1
                              go_wp2
                              go_meet
                              case rel => exact ⟨HCUT.out, HOCUT.out⟩
                            · exact AllReadyK.nil
                          · exact AllReadyK.nil
                        · exact AllReadyK.nil
                  case rest =>
                    as_aux_lemma =>
                      obtain ⟨HB, HO⟩ := hcut
                      obtain ⟨wy, rfl⟩ : ∃ W, W = wc := ⟨wc, rfl⟩
                      have hzcb : ∀ b, b = cb → ρk b = 0 := fun b h => by rw [h]; exact (HRO.out cb hcbl).trans HCZ.out
                      have hdy := DK.out.only HO.out hzcb
                      have hvey := owns_only VE.out HO.out (fun b hb h => by have := (VE.out.lt b hb).1; omega)
                      have hvmy := owns_only VM.out HO.out (fun b hb h => by have := (VM.out.lt b hb).1; omega)
                      have hdb3 := DB2.out.only HO.out HNE.out
                      have hrow : wy.ownsRow 0 59 4 (.slice av d.copies.length cv) d.copies.length (cpL d.copies mk.es mk.ms d.copies.length) := by
                        have := hdy.cps.1; rw [E4.out, HVC.out] at this; exact this
                      have hvb : ∀ b, (Value.slice av d.copies.length cv).ownBlock = some b → ρk b = 2 := fun b hb => hdy.cps.2 b (by rw [E4.out, HVC.out]; exact hb)
                      have hndb : ∀ b, (Value.slice av d.copies.length cv).ownBlock = some b → b ≠ db := fun b hb h => by have h1 := hvb b hb; rw [h, hdy.rdb] at h1; cases h1
                      have hncb : ∀ b, (Value.slice av d.copies.length cv).ownBlock = some b → b ≠ cb := fun b hb h => by have h1 := hvb b hb; rw [hzcb b h] at h1; cases h1
                      have hxd : Ext wy wy.drew := (Below.refl _ wy).drew
                      have hcd := HB.out.ext hxd
                      have hdd := hdb3.ext hxd
                      have hrd := owns_ext hrow hxd
                      go_upto_region 23 with (fail)
                      refine wp_region_K (fun wx => wx.cell? ⟨db, 3, none⟩ = some (.slice av d.copies.length cv) ∧ (wx.cell? ⟨cb, 0, none⟩ = some (.bool g1) ∧ wx.cell? ⟨cb, 1, none⟩ = some (.int .i64 s0)) ∧ (wx.cell? ⟨cb, 2, none⟩ = some (.slice a1 d.n c1) ∧ wx.cell? ⟨cb, 3, none⟩ = some (.slice a2 d.n c2'))) 10 (by kernel_rfl) ⟨hdd.cell 3, ⟨hcd.cell 0, hcd.cell 1⟩, ⟨hcd.cell 2, hcd.cell 3⟩⟩ (fun hHeld => ?_)
                      generalize wy.drew = wA at *
                      have HCD := Lib.hid hcd
                      have HDD := Lib.hid hdd
                      have HRD := Lib.hid hrd
                      have HXD := Lib.hid hxd
                      have HDY := Lib.hid hdy
                      have VEY := Lib.hid hvey
                      have VMY := Lib.hid hvmy
                      have HROW := Lib.hid hrow
                      have HVB := Lib.hid hvb
                      have HNDB := Lib.hid hndb
                      have HNCB := Lib.hid hncb
                      have HZCB := Lib.hid hzcb
                      clear hcd hdd hrd hxd hdy hvey hvmy hrow hvb hndb hncb hzcb
                      clear hdb3
                      refine wpAnyK_takeL (i := 0) (v := ?_) rfl (by kernel_rfl) (by kernel_rfl) (by kernel_rfl) (by kernel_rfl) (fun _ _ _ h => h) (Or.inl ⟨by rfl, ?_⟩) hHeld ?_
                      rotate_left
                      · intro w hSw; (try dsimp only at hSw); go_simp; (try with_reducible rfl)
                      try simp only [Act.put, List.setIfInBounds_toArray, List.set_cons_zero, List.set_cons_succ]
                      refine wpAnyK_takeL (i := 1) (v := ?_) rfl (by kernel_rfl) (by kernel_rfl) (by kernel_rfl) (by kernel_rfl) (fun _ _ _ h => h) (Or.inl ⟨by rfl, ?_⟩) hHeld ?_
                      rotate_left
                      · intro w hSw; (try dsimp only at hSw); go_simp; (try with_reducible rfl)
                      try simp only [Act.put, List.setIfInBounds_toArray, List.set_cons_zero, List.set_cons_succ]
                      refine wpAnyK_takeL (i := 2) (v := ?_) rfl (by kernel_rfl) (by kernel_rfl) (by kernel_rfl) (by kernel_rfl) (fun _ _ _ h => h) (Or.inl ⟨by rfl, ?_⟩) hHeld ?_
                      rotate_left
                      · intro w hSw; (try dsimp only at hSw); go_simp; (try with_reducible rfl)
                      try simp only [Act.put, List.setIfInBounds_toArray, List.set_cons_zero, List.set_cons_succ]
                      refine wpAnyK_takeL (i := 3) (v := ?_) rfl (by kernel_rfl) (by kernel_rfl) (by kernel_rfl) (by kernel_rfl) (fun _ _ _ h => h) (Or.inl ⟨by rfl, ?_⟩) hHeld ?_
                      rotate_left
                      · intro w hSw; (try dsimp only at hSw); go_simp; (try with_reducible rfl)
                      try simp only [Act.put, List.setIfInBounds_toArray, List.set_cons_zero, List.set_cons_succ]
                      refine wpAnyK_takeL (i := 4) (v := ?_) rfl (by kernel_rfl) (by kernel_rfl) (by kernel_rfl) (by kernel_rfl) (fun _ _ _ h => h) (Or.inl ⟨by rfl, ?_⟩) hHeld ?_
                      rotate_left
                      · intro w hSw; (try dsimp only at hSw); go_simp; (try with_reducible rfl)
                      try simp only [Act.put, List.setIfInBounds_toArray, List.set_cons_zero, List.set_cons_succ]
                      refine wpAnyK_takeL (i := 5) (v := ?_) rfl (by kernel_rfl) (by kernel_rfl) (by kernel_rfl) (by kernel_rfl) (fun _ _ _ h => h) (Or.inl ⟨by rfl, ?_⟩) hHeld ?_
                      rotate_left
                      · intro w hSw; (try dsimp only at hSw); go_simp; (try with_reducible rfl)
                      try simp only [Act.put, List.setIfInBounds_toArray, List.set_cons_zero, List.set_cons_succ]
                      refine wpAnyK_ready (rs := [6]) (by kernel_rfl) (by simp) ?_
                      refine AllReadyK.consL (i := 6) rfl (fun K hK => ?_) ?_
                      · refine step_build1 tCopies rfl rfl (v := .agg #[.bool g1, .int .i64 s0, .slice a1 d.n c1, .slice a2 d.n c2']) rfl [.bool g1, .int .i64 s0, .slice a1 d.n c1, .slice a2 d.n c2'] (by omega) rfl rfl ?_
                        intro b1 wb hx hl hb hc
                        have hcd := HCD.out.ext hx
                        have hdd := HDD.out.ext hx
                        have hrd := owns_ext HRD.out hx
                        have hxb := HXD.out.tr hx
                        refine hK.out _ _ (fun _ => ⟨hdd.cell 3, ⟨hcd.cell 0, hcd.cell 1⟩, ⟨hcd.cell 2, hcd.cell 3⟩⟩) (fun hHeld2 => ?_)
                        clear hK K
                        try clear hHeld
                        have hHeld := hHeld2 (by decide)
                        clear hHeld2
                        try simp only [Act.put, List.setIfInBounds_toArray, List.set_cons_zero, List.set_cons_succ]
                        have HCE := Lib.hid hcd
                        have HDE2 := Lib.hid hdd
                        have HRE := Lib.hid hrd
                        have HXE := Lib.hid hxb
                        have L1 := Lib.hid hc
                        clear hcd hdd hrd hxb hc
                        clear HCD HDD HRD HXD hx hl hb
                        refine wpAnyK_ready (rs := [7]) (by kernel_rfl) (by simp) ?_
                        refine AllReadyK.consL (i := 7) rfl (fun K hK => ?_) ?_
                        · refine step_app tCopies (v := .slice av d.copies.length cv) rfl rfl rfl HRE.out rfl (cs := [.bool g1, .int .i64 s0, .slice a1 d.n c1, .slice a2 d.n c2']) rfl (by omega) L1.out (by simp [Value.oneCell']) (by omega) (Nat.zero_le _) ?_
                          intro v' wa q1 q2 q3 q4
                          obtain ⟨x3, y3, rfl⟩ := owns_form q1
                          have hcd := HCE.out.only (only_grown q2) (fun h => HNCB.out _ h rfl)
                          have hdd := HDE2.out.only (only_grown q2) (fun h => HNDB.out _ h rfl)
                          refine hK.out _ _ (fun _ => ⟨hdd.cell 3, ⟨hcd.cell 0, hcd.cell 1⟩, ⟨hcd.cell 2, hcd.cell 3⟩⟩) (fun hHeld2 => ?_)
                          clear hK K
                          try clear hHeld
                          have hHeld := hHeld2 (by decide)
                          clear hHeld2
                          try simp only [Act.put, List.setIfInBounds_toArray, List.set_cons_zero, List.set_cons_succ]
                          have HCF := Lib.hid hcd
                          have HDF := Lib.hid hdd
                          have Q1 := Lib.hid q1
                          have Q2 := Lib.hid q2
                          have Q3 := Lib.hid q3
                          clear hcd hdd q1 q2 q3
                          clear HCE HDE2 HRE L1 q4
                          refine wpAnyK_takeL (i := 8) (v := ?_) rfl (by kernel_rfl) (by kernel_rfl) (by kernel_rfl) (by kernel_rfl) (fun _ _ _ h => h) (Or.inl ⟨by rfl, ?_⟩) hHeld ?_
                          rotate_left
                          · intro w hSw; (try dsimp only at hSw); go_simp; (try with_reducible rfl)
                          try simp only [Act.put, List.setIfInBounds_toArray, List.set_cons_zero, List.set_cons_succ]
                          refine wpAnyK_takeL (i := 9) (v := ?_) rfl (by kernel_rfl) (by kernel_rfl) (by kernel_rfl) (by kernel_rfl) (fun _ _ _ h => h) (Or.inl ⟨by rfl, ?_⟩) hHeld ?_
                          rotate_left
                          · intro w hSw; (try dsimp only at hSw); go_simp; (try with_reducible rfl)
                          try simp only [Act.put, List.setIfInBounds_toArray, List.set_cons_zero, List.set_cons_succ]
                          clear hHeld
                          refine wpAnyK_ready (rs := [10]) (by kernel_rfl) (by simp) ?_
                          refine AllReadyK.consL (i := 10) rfl (fun K hK => ?_) ?_
                          · refine step_setK (v := .slice x3 (d.copies.length + 1) y3) rfl rfl HDF.out rfl rfl (by simp) (by kernel_rfl) rfl (by simp [Value.oneCell']) ?_
                            intro w1 hw1 hb1 ho1
                            refine hK.out _ _ (fun h => absurd h (by decide)) (fun hHeld2 => ?_)
                            clear hK K hHeld2
                            try clear hHeld
                            try simp only [Act.put, List.setIfInBounds_toArray, List.set_cons_zero, List.set_cons_succ]
                            refine wpAnyK_done (by kernel_rfl) ?_ _
                            have hrc : rC d seen = ⟨g1, s0, rErrs d seen d.n, rMovs d seen d.n⟩ := by
                              unfold rC rGood
                              rw [HG1.out, ← HBB.out, HFF.out, HG0.out, HS0.out, HIS.out]
                              unfold rB
                              rw [HBP.out]
                            have hel2 : (rC d seen).errs.length = d.n := by simp [rC, rErrs]
                            have hml2 : (rC d seen).moves.length = d.n := by simp [rC, rMovs]
                            have hwes : we.heap.size ≤ wy.heap.size := Nat.le_trans HON.out.size HO.out.size
                            obtain ⟨ρ', hds, hold, hoy⟩ := DSt.push (c := rC d seen) (ve := .slice a1 d.n c1) (vm := .slice a2 d.n c2') (v' := .slice x3 (d.copies.length + 1) y3) (B := we.heap.size) HDY.out (by rw [hel2]; exact VEY.out) (by rw [hml2]; exact VMY.out)
                              (fun b hb => ⟨fun h => hb (HZ.out b (.inl h)), fun h => hb (HZ.out b (.inr h))⟩) hwes HXE.out (by rw [hrc]; exact Q1.out) (by rw [E4.out, HVC.out]; exact Q2.out) (by rw [E4.out, HVC.out]; exact Q3.out) hw1
                            have hds2 : DSt w1 db (readD d seen) _ ρ' := hds
                            have hz0 : ∀ b, ρk b = 0 → ¬ (mk.vc.ownBlock = some b ∨ b = db) := fun b hb h => by
                              rcases h with h | h
                              · have := HDY.out.cps.2 b h; omega
                              · rw [h, HDY.out.rdb] at hb; cases hb
                            have hve1 : Ints w1 (.slice a1 d.n c1) (rErrs d seen d.n) := Sl.of_owns (owns_only VEY.out hoy (fun b hb => hz0 b (HZ.out b (.inl hb))))
                            have hvm1 : Ints w1 (.slice a2 d.n c2') (rMovs d seen d.n) := Sl.of_owns (owns_only VMY.out hoy (fun b hb => hz0 b (HZ.out b (.inr hb))))
                            have hcb1 := HB.out.only hoy (hz0 cb (HZCB.out cb rfl))
                            have hrc6 := RB.out.lt
                            have hrcb : ¬ rb = cb := by have := HXS.out; omega
                            have hr0 : ρ rb = 0 := Decidable.byContradiction fun h => by have := HD.out.hlt rb h; omega
                            have hrwe := RBE.out.lt
                            have hrk : ρk rb = 0 := (HRO.out rb hrwe).trans hr0
                            have hrb1 := ((RBE.out.only HON.out (fun h => by rcases h with h | h | h; exact h hr0; exact hrcb h; omega)).only HO.out hrcb).only hoy (hz0 rb hrk)
                            have k4 := hcb1.cell
                            have hcode : rCode d seen = ec := by unfold rCode; rw [← HIS.out, HEC.out]
                            have hrel : (rErrs d seen d.n).length = d.n := by simp [rErrs]
                            have hrml : (rMovs d seen d.n).length = d.n := by simp [rMovs]
                            have hd12 : d.n ≤ 12 := by omega
                            have hwcb : w.heap.size ≤ cb := by have := HXS.out; have := HX.out.size; omega
                            have hww : Only (fun b => ρ b ≠ 0) w w1 := (((Only.of_ext (HX.out.tr GE.out)).then HON.out (fun b hb h => by rcases h with h | h | h; exact h; omega; have := HX.out.size; have := GE.out.size; omega)).then HO.out (fun b hb h => by omega)).then hoy (fun b hb h => by
                              have hbe : b < we.heap.size := by have := HX.out.size; have := GE.out.size; omega
                              rw [← HRO.out b hbe]
                              intro h0
                              exact hz0 b h0 h)
                            have hroles : ∀ b, b < w.heap.size → ρ' b = ρ b := fun b hb => by
                              have hbe : b < we.heap.size := by have := HX.out.size; have := GE.out.size; omega
                              exact (hold b hbe).trans (HRO.out b hbe)
                            have hrk' : ρ' rb = 0 := (hold rb hrwe).trans hrk
                            have HDS := Lib.hid hds2
                            have HRC := Lib.hid hrc
                            have VE1 := Lib.hid hve1
                            have VM1 := Lib.hid hvm1
                            have RB1 := Lib.hid hrb1
                            have HCODE := Lib.hid hcode
                            have HREL := Lib.hid hrel
                            have HRML := Lib.hid hrml
                            have HWW := Lib.hid hww
                            have HROLES := Lib.hid hroles
                            have HRK := Lib.hid hrk'
                            have HR0 := Lib.hid hr0
                            clear hds2 hrc hve1 hvm1 hrb1 hcode hrel hrml hww hroles hrk' hr0
                            clear hold hoy hz0 hcb1 hds hb1 ho1 hw1 hel2 hml2 hrk HCF HDF Q1 Q2 Q3
                            go_wp2_with (first
                              | (go_at_call 43
                                 refine (copied_any g1 s0 _ _ _ _ w1 VE1.out VM1.out (by rw [HREL.out]; omega) (by rw [HRML.out]; omega)).mono ?_
                                 rintro e w9 ⟨ve', vm', rfl, hx9, ho1, ho2, hap9⟩
                                 rw [HREL.out] at ho1
                                 rw [HRML.out] at ho2
                                 unfold cpV
                                 obtain ⟨x4, y4, rfl⟩ := owns_form ho1
                                 obtain ⟨x5, y5, rfl⟩ := owns_form ho2
                                 have rb9 := RB1.out.ext hx9
                                 have RB9 := Lib.hid rb9
                                 have HX9 := Lib.hid hx9
                                 have HO1 := Lib.hid ho1
                                 have HO2 := Lib.hid ho2
                                 have HAP9 := Lib.hid hap9
                                 clear rb9 hx9 ho1 ho2 hap9
                                 clear k4)
                              | (with_reducible refine wpList_storeK (cells := #[.bool g1, .int .i64 s0, .slice x4 d.n y4, .slice x5 d.n y5]) rfl rfl RB9.out ?_ ?_ ?_ ?_ ?_ ?_
                                 · rfl
                                 · rfl
                                 · kernel_rfl
                                 · rfl
                                 · simp [Value.oneCell']
                                 rintro w10 hb10 ho10
                                 have k5 := hb10.cell
                                 have HO10 := Lib.hid ho10
                                 clear ho10
                                 clear hb10))
                            have hs9 := HX9.out.size
                            have hne1 : ∀ b, (Value.slice x4 d.n y4).ownBlock = some b → b ≠ rb := fun b hb h => by have := (HO1.out.lt b hb).1; have := RB1.out.lt; omega
                            have hne2 : ∀ b, (Value.slice x5 d.n y5).ownBlock = some b → b ≠ rb := fun b hb h => by have := (HO2.out.lt b hb).1; have := RB1.out.lt; omega
                            have hw1w := HWW.out.size
                            refine bodyPost_ret (v := .tuple #[.agg #[.bool g1, .int .i64 s0, .slice x4 d.n y4, .slice x5 d.n y5], .int .i64 ec]) (by simp [results, Try.results21, go_sem, k5]) rfl (.inr ⟨HER.out, .slice x4 d.n y4, .slice x5 d.n y5, _, ρ', ?_, ?_, ?_, HAP9.out, ?_, (HDS.out.ext HX9.out).only HO10.out (fun b h => by rw [h]; exact HRK.out), HROLES.out, (HWW.out.tr (Only.of_ext HX9.out)).then HO10.out (fun b hb h => by omega)⟩)
                            · rw [HRC.out, HCODE.out]; rfl
                            · exact owns_weak (owns_only HO1.out HO10.out hne1) hw1w
                            · exact owns_weak (owns_only HO2.out HO10.out hne2) hw1w
                            · intro b hb
                              refine Decidable.byContradiction fun h => ?_
                              have h1 := HDS.out.hlt b h
                              rcases hb with hb | hb
                              · have := (HO1.out.lt b hb).1; omega
                              · have := (HO2.out.lt b hb).1; omega
                          · exact AllReadyK.nil
                        · exact AllReadyK.nil
                      · exact AllReadyK.nil
  · have her0 : er ≠ 0 := by rw [← her]; unfold readErr; split; omega; split; omega; rename_i h1 h2; exact (hso ⟨by omega, Classical.not_not.1 h2⟩).elim
    as_aux_lemma =>
      have HM : Hid (Calls Try.prog 33 #[.agg #[.slice (some ⟨pg, 0, none⟩) d.pat.length cp, .int .i64 d.win], .slice as_ seen.length cs] w1 fun e w' => e = .returned (.tuple #[.agg #[.int .i64 0, .int .i64 0, .slice none 0 0], .int .i64 er]) ∧ Ext w1 w') := (HMT.out w1 HX.out).mono fun e w' ⟨h, hx⟩ => by
        rcases h with ⟨e2, h1, rfl⟩ | ⟨h1, h2, _⟩
        · refine ⟨?_, hx⟩
          have : e2 = er := by
            rw [← her]; unfold readErr
            rcases h1 with ⟨rfl, h⟩ | ⟨rfl, h, h'⟩
            · rw [if_pos h]
            · rw [if_neg (by omega), if_pos h']
          rw [this]
        · exact (hso ⟨h1, h2⟩).elim
      have HER := Lib.hid her
      have hlr : w.heap.size ≤ rb := hlr1
      have e1 : (er == 0) = false := by simp [her0]
      have e2 : (er != 0) = true := by simp [her0]
      replace her0 := Lib.hid her0
      clear hso her
      refine HM.out.mono ?_
      rintro e w4 ⟨rfl, hx4⟩
      replace HX := Lib.hid (HX.out.ext hx4)
      replace RB := Lib.hid (RB.out.ext hx4)
      clear hx4
      go_wp2_with (first
        | (with_reducible refine wpList_allocA (t := 26) rfl rfl Try.zeroValue26 ?_
           rintro fb w5 hb5 hx5 hl5
           have FB := Lib.hid hb5
           have G5 := Lib.hid hx5
           clear hb5 hx5)
        | (with_reducible refine wpList_storeK (ty := 26) (cells := #[.int .i64 0, .int .i64 0, .slice none 0 0]) rfl rfl FB.out ?_ ?_ ?_ ?_ ?_ ?_
           · rfl
           · rfl
           · kernel_rfl
           · rfl
           · simp [Value.oneCell']
           rintro w6 hb6 ho6
           have hx6 : Ext w4 w6 := G5.out.then_only ho6 (fun k (e : k = fb) => by omega)
           replace HX := Lib.hid (HX.out.ext hx6)
           replace RB := Lib.hid (RB.out.ext hx6)
           clear FB G5 ho6 hb6 hx6)
        | (with_reducible refine wpList_storeK (ty := 59) (cells := #[.bool false, .int .i64 0, .slice none 0 0, .slice none 0 0]) rfl rfl RB.out ?_ ?_ ?_ ?_ ?_ ?_
           · rfl
           · rfl
           · kernel_rfl
           · rfl
           · simp [Value.oneCell']
           rintro w7 hb7 ho7
           have hx7 := HX.out.then_only ho7 (fun k (e : k = rb) => by omega)
           have k0 := hb7.cell
           clear HX
           have HX := Lib.hid hx7
           clear hx7
           clear ho7 hb7))
      refine bodyPost_ret (v := .tuple #[.agg #[.bool false, .int .i64 0, .slice none 0 0, .slice none 0 0], .int .i64 er]) (by simp [results, Try.results21, go_sem, k0]) rfl (.inl ⟨by rw [HER.out]; exact her0.out, by rw [HER.out]; rfl, HX.out⟩)
end Go.Proofs.Ytafnadaahnkcmaa
