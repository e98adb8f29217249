/- register.New. -/
import Derived.Test.YtafnadaahnkcmaaDesk1
import Derived.Test.YtafnadaahnkcmaaRight
import Derived.Deep.RegionLaw
namespace Go.Proofs.Ytafnadaahnkcmaa
open Go.RowKit
set_option linter.unusedVariables false

theorem tCtls : SliceT Try.prog 100 95 (.agg #[.int .i64 0, .int .i64 0, .int .i64 0, .int .i64 0, .pointer none]) 5 40 := ⟨by kernel_rfl, by kernel_rfl, rfl, by decide, by decide⟩

/-- A slice of loops. -/
def LoopsIn (w : World) (v : Value) (l : List Loop) : Prop :=
  l.length ≤ 9223372036854775807 ∧ ∃ a c, v = .slice a l.length c ∧ (0 < l.length → ∃ b o, a = some ⟨b, o, none⟩ ∧ ∀ i (h : i < l.length), ∀ j, j < 4 → w.cell? ⟨b, o + i * 4 + j, none⟩ = (#[Value.int .i64 l[i].dead, .int .i64 l[i].noise, .int .i64 l[i].blur, .int .i64 l[i].step] : Array Value)[j]?)
theorem LoopsIn.ext {w w' : World} {v : Value} {l : List Loop} (h : LoopsIn w v l) (k : Ext w w') : LoopsIn w' v l := by
  obtain ⟨h0, a, c, h1, h2⟩ := h
  refine ⟨h0, a, c, h1, fun h3 => ?_⟩
  obtain ⟨b, o, h4, h5⟩ := h2 h3
  refine ⟨b, o, h4, fun i hi j hj => ?_⟩
  have h6 := h5 i hi j hj
  have : ∃ u, (#[Value.int .i64 l[i].dead, .int .i64 l[i].noise, .int .i64 l[i].blur, .int .i64 l[i].step] : Array Value)[j]? = some u := ⟨_, Array.getElem?_eq_getElem (by simpa using hj)⟩
  obtain ⟨u, hu⟩ := this
  rw [hu] at h6 ⊢
  exact k.cellSome h6

def newD (pat : List Int) (l : List Loop) (win limit : Int) : DeskD := ⟨pat, win, limit, l, l.map fun x => List.replicate x.dead.toNat 0, []⟩
open Classical in
noncomputable def newErr (pat : List Int) (l : List Loop) (win limit : Int) : Int :=
  if ¬ (2 ≤ pat.length ∧ pat.length ≤ 12) then 2 else if ∃ x ∈ l, ¬ x.Ok then 60 else if (l.length : Int) ≠ pat.length - 1 then 1 else if ¬ GoodP pat win ∨ ¬ (0 ≤ limit ∧ limit ≤ 1000000) then 6 else 0

def NewDeskPost (w : World) (pat : List Int) (l : List Loop) (win limit : Int) (e : Ending) (w' : World) : Prop :=
  (newErr pat l win limit ≠ 0 ∧ e = .returned (.tuple #[.pointer none, .int .i64 (newErr pat l win limit)]) ∧ Ext w w') ∨
  (newErr pat l win limit = 0 ∧ ∃ db m ρ, e = .returned (.tuple #[.pointer (some ⟨db, 0, none⟩), .int .i64 0]) ∧ DSt w' db (newD pat l win limit) m ρ ∧ (∀ k, k < w.heap.size → ρ k = 0) ∧ Ext w w')

theorem DSt.start {w0 w : World} {db mb : Nat} {v1 : Value} {pat : List Int} {win limit : Int} (hd : Blk w db #[.pointer (some ⟨mb, 0, none⟩), .slice none 0 0, .int .i64 limit, .slice none 0 0] 102)
    (hm : Blk w mb #[v1, .int .i64 win] 85) (hp : w.ownsRow w0.heap.size 3 1 v1 pat.length (pat.map (.int .i64))) (h1 : w0.heap.size ≤ mb) (h2 : mb < db) (h3 : ∀ b, v1.ownBlock = some b → b < mb) :
    ∃ m ρ, DSt w db (newD pat [] win limit) m ρ ∧ ∀ b, b < w0.heap.size → ρ b = 0 := by
  have ne : ∀ b, v1.ownBlock = some b → b ≠ db ∧ b ≠ mb := fun b hb => by have := h3 b hb; constructor <;> omega
  refine ⟨⟨mb, v1, .slice none 0 0, .slice none 0 0, fun _ => 0, fun _ => 0, fun _ => .slice none 0 0, fun _ => .slice none 0 0⟩, fun b => if b = db then 1 else if b = mb then 3 else if v1.ownBlock = some b then 3 else 0, {
    hlt := fun b hb => ?_
    rdb := by simp
    desk := hd
    rmb := by simp; omega
    marks := hm
    pat := ⟨owns_weak hp (by omega), fun b hb => by simp [hb, (ne b hb).1, (ne b hb).2]⟩
    loops := ⟨World.ownsRow_nil _ _ _ _, fun b hb => by cases hb⟩
    rq := fun i hi => by simp [newD, DeskD.n] at hi
    rg := fun i hi => by simp [newD, DeskD.n] at hi
    qst := fun i hi => by simp [newD, DeskD.n] at hi
    cps := ⟨World.ownsRow_nil _ _ _ _, fun b hb => by cases hb⟩
    es := fun i hi => by simp [newD] at hi
    ms := fun i hi => by simp [newD] at hi }, fun b hb => ?_⟩
  · split at hb
    · rename_i e; rw [e]; exact hd.lt
    · split at hb
      · rename_i e; rw [e]; exact hm.lt
      · split at hb
        · rename_i e; exact (hp.lt b e).2
        · omega
  · dsimp only
    rw [if_neg (by omega), if_neg (by omega)]
    split
    · rename_i e; have := (hp.lt b e).1; omega
    · rfl
theorem newD_snoc (pat : List Int) (l : List Loop) (x : Loop) (win limit : Int) : newD pat (l ++ [x]) win limit = { newD pat l win limit with loops := (newD pat l win limit).loops ++ [x], qs := (newD pat l win limit).qs ++ [List.replicate x.dead.toNat 0] } := by
  simp [newD]

set_option maxRecDepth 100000 in
set_option maxHeartbeats 4000000 in
theorem new_any (pat : List Int) (l : List Loop) (win limit : Int) (vp vl : Value) (w : World) (hp : Ints w vp pat) (hpb : ∀ x ∈ pat, I64 x) (hw : I64 win) (hlm : I64 limit) (hl : LoopsIn w vl l) (hpl : pat.length ≤ 1000) :
    Calls Try.prog 20 #[vp, vl, .int .i64 win, .int .i64 limit] w (NewDeskPost w pat l win limit) := by
  obtain ⟨ap, cp, rfl, HP⟩ := hp.form
  obtain ⟨hll, al, cl, rfl, hlc⟩ := hl
  have HL := Lib.hid hlc
  obtain ⟨er, her⟩ : ∃ er, newErr pat l win limit = er := ⟨_, rfl⟩
  have hpost : ∀ w' : World, er ≠ 0 → Ext w w' → NewDeskPost w pat l win limit (.returned (.tuple #[.pointer none, .int .i64 er])) w' := fun w' h1 h2 => .inl ⟨by rw [her]; exact h1, by rw [her], h2⟩
  have HPO := Lib.hid hpost
  have HPB := Lib.hid hpb
  clear hpost hpb
  clear hp hlc
  by_cases a1 : ¬ (2 ≤ pat.length ∧ pat.length ≤ 12)
  · have her2 : er = 2 := by rw [← her]; unfold newErr; rw [if_pos a1]
    subst her2
    clear her
    go_enter Try.func20, Try.ntmps20
    go_wp2_with (go_at_call 31; refine (in_false _ _ _ _ (by omega)).mono ?_; rintro e w' ⟨rfl, rfl⟩)
    go_ret2
    exact HPO.out _ (by omega) (Below.refl _ _)
  have a1' : 2 ≤ pat.length ∧ pat.length ≤ 12 := Decidable.not_not.1 a1
  obtain ⟨a11, a12⟩ := a1'
  go_enter Try.func20, Try.ntmps20
  go_wp2_with (go_at_call 31; refine (in_true _ _ _ _ (by omega)).mono ?_; rintro e w' ⟨rfl, rfl⟩)
  go_loopw [23] (fun t wr => ∃ k : Nat, k ≤ l.length ∧ t = .int .i64 k ∧ Hid (∀ i (h : i < l.length), i < k → l[i].Ok) ∧ Hid (Ext w wr)) (fun t _ => l.length - (intOf t).toNat)
  case atStart => exact ⟨0, Nat.zero_le _, rfl, (fun i h h2 => by omega), Below.refl _ _⟩
  case round =>
    obtain ⟨k, hk, rfl, HK, HX⟩ := hrel
    by_cases hlt : k < l.length
    · obtain ⟨b1, o1, rfl, hc1⟩ := HL.out (by omega)
      have hcx := hc1 k hlt
      obtain ⟨x, hx⟩ : ∃ x, x = l[k] := ⟨_, rfl⟩
      rw [← hx] at hcx
      obtain ⟨d, n, b, s⟩ := x
      have c0 := HX.out.cellSome (hcx 0 (by omega))
      have c1 := HX.out.cellSome (hcx 1 (by omega))
      have c2 := HX.out.cellSome (hcx 2 (by omega))
      have c3 := HX.out.cellSome (hcx 3 (by omega))
      rw [Nat.add_zero] at c0
      have j1 : (0:Int) ≤ (k:Int) := by omega
      have j2 : (k:Int) < (l.length:Int) := by omega
      have HXE := Lib.hid hx
      clear hx
      clear hc1 hcx
      dsimp only at c0 c1 c2 c3
      go_upto_region 6 with (first
        | (with_reducible refine wpList_allocA rfl rfl Try.zeroValue36 ?_
           rintro lb w2 hb2 hx2 hl2
           have e0 := hx2.cellSome c0
           have e1 := hx2.cellSome c1
           have e2 := hx2.cellSome c2
           have e3 := hx2.cellSome c3
           have hl2' := Nat.le_trans HX.out.size hl2
           replace HX := Lib.hid (HX.out.ext hx2)
           have HB := Lib.hid hb2
           clear hb2
           clear hx2 c0 c1 c2 c3)
        | (with_reducible refine wpList_storeK (cells := #[.int .i64 d, .int .i64 n, .int .i64 b, .int .i64 s]) rfl rfl HB.out ?_ ?_ ?_ ?_ ?_ ?_
           · rfl
           · rfl
           · kernel_rfl
           · rfl
           · simp [Value.oneCell']
           rintro w3 hb3 ho3
           have hx3 := HX.out.then_only ho3 (fun k (hk : k = lb) => by omega)
           clear HB HX
           have HB := Lib.hid hb3
           have HX := Lib.hid hx3
           clear hb3 hx3
           clear ho3 e0 e1 e2 e3))
      have c4 := HB.out.cell
      by_cases hok : (⟨d, n, b, s⟩ : Loop).Ok
      · have HV := Lib.hid (show (⟨d, n, b, s⟩ : Loop).err = 0 by simp [Loop.err, hok])
        have HK2 : Hid (∀ i (h : i < l.length), i < k + 1 → l[i].Ok) := fun i h h2 => by
          rcases Nat.lt_or_ge i k with h3 | h3
          · exact HK.out i h h3
          · obtain rfl : i = k := by omega
            rw [← HXE.out]; exact hok
        clear hok
        go_wp2_with (go_at_call 36; refine (check_any ⟨d, n, b, s⟩ _).mono ?_; rintro e w5 ⟨rfl, hx5⟩; rw [HV.out]
                     replace HX := Lib.hid (HX.out.ext hx5)
                     clear hx5)
        go_roundw
        case rel => exact ⟨k + 1, by omega, by go_num, HK2.out, HX.out⟩
        case measure => simp [intOf]; omega
      · have HV := Lib.hid (show (⟨d, n, b, s⟩ : Loop).err = 60 by simp [Loop.err, hok])
        have her2 : er = 60 := by
          rw [← her]; unfold newErr
          rw [if_neg (fun h => h ⟨a11, a12⟩), if_pos ⟨l[k], List.getElem_mem _, by rw [← HXE.out]; exact hok⟩]
        subst her2
        clear hok her
        go_wp2_with (go_at_call 36; refine (check_any ⟨d, n, b, s⟩ _).mono ?_; rintro e w5 ⟨rfl, hx5⟩; rw [HV.out]
                     replace HX := Lib.hid (HX.out.ext hx5)
                     clear hx5)
        go_ret2
        exact HPO.out _ (by omega) HX.out
    · obtain rfl : k = l.length := by omega
      have hallok : ∀ x ∈ l, x.Ok := fun x hx => by
        obtain ⟨i, hi, rfl⟩ := List.mem_iff_getElem.1 hx
        exact HK.out i hi hi
      have hnoex : ¬ ∃ x ∈ l, ¬ x.Ok := fun ⟨x, h1, h2⟩ => h2 (hallok x h1)
      by_cases hln : (l.length : Int) = pat.length - 1
      · have d1 : ((l.length : Int) == (pat.length : Int) - 1) = true := by simp [hln]
        have d2 : ((l.length : Int) != (pat.length : Int) - 1) = false := by simp [hln]
        have hl11 : l.length ≤ 11 := by omega
        have HLN := Lib.hid hln
        have HAO := Lib.hid hallok
        have HNE := Lib.hid hnoex
        clear hln hallok hnoex
        clear HK
        have arms : True := trivial
        by_cases hgp : GoodP pat win
        · have HGB := Lib.hid (goodB_true hgp)
          have HGP := Lib.hid hgp
          clear hgp
          by_cases hlim : 0 ≤ limit ∧ limit ≤ 1000000
          · have her2 : er = 0 := by
              rw [← her]; unfold newErr
              rw [if_neg (fun h => h ⟨a11, a12⟩), if_neg HNE.out, if_neg (fun h => h HLN.out), if_neg (fun h => h.elim (fun h => h HGP.out) (fun h => h hlim))]
            obtain ⟨hlim1, hlim2⟩ := hlim
            go_upto_region 16 with (first
              | (go_at_call 41
                 refine (clone_any pat _ _ (HP.out.ext HX.out) (by omega)).mono ?_
                 rintro e w2 ⟨v1, rfl, hx2, ho2⟩
                 have ho2' := owns_weak ho2 HX.out.size
                 obtain ⟨a1, c1, hv1, _⟩ := (show Ints w2 v1 pat from Sl.of_owns ho2).form
                 subst hv1
                 replace HX := Lib.hid (HX.out.ext hx2)
                 have HO := Lib.hid ho2'
                 clear ho2'
                 clear hx2 ho2)
              | (with_reducible refine wpList_boxA (t := 85) (cs := #[.slice a1 pat.length c1, .int .i64 win]) rfl rfl rfl ?_
                 rintro mb w3 hb3 hx3 hl3
                 have hv3 : Hid (∀ b, (Value.slice a1 pat.length c1).ownBlock = some b → b < mb) := fun b hb => by have := (HO.out.lt b hb).2; omega
                 have ho3 := owns_ext HO.out hx3
                 have hmb := Nat.le_trans HX.out.size hl3
                 replace HX := Lib.hid (HX.out.ext hx3)
                 have c3 := hb3.cell
                 have HB := Lib.hid hb3
                 have HO3 := Lib.hid ho3
                 clear hb3 ho3
                 clear hx3 HO)
              | (go_at_call 32
                 refine (right_any pat a1 c1 win _ (Sl.of_owns HO3.out) hw HPB.out).mono ?_
                 rintro e w4 ⟨rfl, hx4⟩
                 rw [HGB.out]
                 replace HO3 := Lib.hid (owns_ext HO3.out hx4)
                 replace HX := Lib.hid (HX.out.ext hx4)
                 replace HB := Lib.hid (HB.out.ext hx4)
                 clear hx4 c3)
              | (go_at_call 31; refine (in_true _ _ _ _ (by omega)).mono ?_; rintro e w5 ⟨rfl, rfl⟩)
              | (with_reducible refine wpList_boxA (t := 102) (cs := #[.pointer (some ⟨mb, 0, none⟩), .slice none 0 0, .int .i64 limit, .slice none 0 0]) rfl rfl rfl ?_
                 rintro db w6 hb6 hx6 hl6
                 have hmd : mb < db := Nat.lt_of_lt_of_le HB.out.lt hl6
                 replace HO3 := Lib.hid (owns_ext HO3.out hx6)
                 replace HX := Lib.hid (HX.out.ext hx6)
                 replace HB := Lib.hid (HB.out.ext hx6)
                 have DB := Lib.hid hb6
                 clear hb6
                 clear hx6))
            obtain ⟨m0, ρ0, hd0, hr0⟩ := DSt.start (w0 := w) DB.out HB.out HO3.out hmb hmd hv3
            have D0 := Lib.hid hd0
            have R0 := Lib.hid hr0
            have X0 := Lib.hid HX.out
            clear hd0 hr0
            clear HX DB HB HO3 hv3 hmb hmd hl3 hl6
            go_wp2
            go_loopw [60] (fun t wr => ∃ k : Nat, k ≤ l.length ∧ t = .int .i64 k ∧ ∃ m ρ, Hid (DSt wr db (newD pat (l.take k) win limit) m ρ) ∧ Hid (∀ b, b < w.heap.size → ρ b = 0) ∧ Hid (Ext w wr)) (fun t _ => l.length - (intOf t).toNat)
            case atStart => exact ⟨0, Nat.zero_le _, rfl, m0, ρ0, D0.out, R0.out, X0.out⟩
            case round =>
              obtain ⟨k, hk, rfl, m, ρ, HD, HR, HX⟩ := hrel
              clear D0 R0 X0
              by_cases hlt : k < l.length
              · obtain ⟨b1, o1, rfl, hc1⟩ := HL.out (by omega)
                have hcx := hc1 k hlt
                obtain ⟨x, hx⟩ : ∃ x, x = l[k] := ⟨_, rfl⟩
                have hxo := HAO.out l[k] (List.getElem_mem _)
                rw [← hx] at hcx hxo
                obtain ⟨d, n, b, s⟩ := x
                have c0 := HX.out.cellSome (hcx 0 (by omega))
                have c1 := HX.out.cellSome (hcx 1 (by omega))
                have c2 := HX.out.cellSome (hcx 2 (by omega))
                have c3 := HX.out.cellSome (hcx 3 (by omega))
                rw [Nat.add_zero] at c0
                have j1 : (0:Int) ≤ (k:Int) := by omega
                have j2 : (k:Int) < (l.length:Int) := by omega
                dsimp only at c0 c1 c2 c3
                unfold Loop.Ok at hxo
                dsimp only at hxo
                obtain ⟨⟨x1, x2⟩, ⟨x3, x4⟩, ⟨x5, x6⟩, x7, x8, x9⟩ := hxo
                obtain ⟨D, rfl⟩ := Int.eq_ofNat_of_zero_le x1
                have HXE := Lib.hid hx
                clear hx
                clear hc1 hcx
                go_upto_region 19 with (first
                  | (with_reducible refine wpList_allocA rfl rfl Try.zeroValue36 ?_
                     rintro lb w2 hb2 hx2 hl2
                     have e0 := hx2.cellSome c0
                     have e1 := hx2.cellSome c1
                     have e2 := hx2.cellSome c2
                     have e3 := hx2.cellSome c3
                     have G2 := Lib.hid hx2
                     have LB := Lib.hid hb2
                     clear hx2 hb2
                     clear c0 c1 c2 c3)
                  | (with_reducible refine wpList_storeK (cells := #[.int .i64 (D:Int), .int .i64 n, .int .i64 b, .int .i64 s]) rfl rfl LB.out ?_ ?_ ?_ ?_ ?_ ?_
                     · rfl
                     · rfl
                     · kernel_rfl
                     · rfl
                     · simp [Value.oneCell']
                     rintro w3 hb3 ho3
                     have hx3 : Ext wr w3 := G2.out.then_only ho3 (fun k (hk : k = lb) => by omega)
                     clear LB G2
                     have LB := Lib.hid hb3
                     have G3 := Lib.hid hx3
                     clear hb3 hx3
                     clear ho3 e0 e1 e2 e3))
                have HD3 := Lib.hid (HD.out.ext G3.out)
                have hdn : (newD pat (l.take k) win limit).n = k := by simp [newD, DeskD.n]; omega
                have HBY : Hid (((newD pat (l.take k) win limit).n + 1) * 40 ≤ 140737488355328) := by rw [hdn]; show _ ≤ _; omega
                have HDN := Lib.hid hdn
                clear hdn
                have c4 := LB.out.cell
                have c5 := HD3.out.desk.cell
                have f5 := HD3.out.desk.free
                go_region_law ((first
                  | (refine step_app tCtls rfl rfl rfl (owns_ext HD3.out.loops.1 (HX5.out.tr (ext_lit w5 _ _))) rfl (cs := [.int .i64 (D:Int), .int .i64 n, .int .i64 b, .int .i64 s, .pointer (some ⟨qb, 0, none⟩)]) rfl (by omega) (new_cells w5 _ _) (by simp [Value.oneCell']) HBY.out (Nat.zero_le _) ?_
                     intro v' w7 a1 a2 a3 a4
                     obtain ⟨gv, cv, hv⟩ : ∃ g c, v' = .slice (some ⟨g, 0, none⟩) ((newD pat (l.take k) win limit).n + 1) c := by
                       rcases a1.2 with ⟨_, h0⟩ | ⟨g, cap, cur, hv, _⟩
                       · omega
                       · exact ⟨g, cap, hv⟩
                     subst hv
                     have hx6 := HX5.out.tr (ext_lit w5 #[.int .i64 (D:Int), .int .i64 n, .int .i64 b, .int .i64 s, .pointer (some ⟨qb, 0, none⟩)] 95)
                     have hb7 := (HD3.out.desk.ext hx6).only (only_grown a2) (fun hS => by have h1 := HD3.out.loops.2 db hS; have h2 := HD3.out.rdb; omega)
                     have c7 := hb7.cell
                     have f7 := hb7.free
                     have A1 := Lib.hid a1
                     have A2 := Lib.hid a2
                     have A3 := Lib.hid a3
                     clear a1 a2 a3
                     clear a4 hx6 hb7)
                  | (go_simp
                     go_at_call 39
                     refine (start_any ⟨(D:Int), n, b, s⟩ D _ (by omega) rfl).mono ?_
                     rintro e w5 ⟨qb, g, rfl, hq, hqb, hg, hx5⟩
                     dsimp only [ctl]
                     have hx5' : Ext w3 w5 := (Ext.of_drewN w3 1).tr hx5
                     have c6 := (HD3.out.desk.ext hx5').cell
                     have f6 := (HD3.out.desk.ext hx5').free
                     have HX5 := Lib.hid hx5'
                     have HQ := Lib.hid hq
                     have hdl5 := (HD3.out.desk.ext hx5').lt
                     clear hx5 hq hx5')))
                all_goals (
                  obtain ⟨ρ', hd', hr', ho'⟩ := DSt.addLoop (x := ⟨(D:Int), n, b, s⟩) HD3.out (by simp [newD, DeskD.n]) HQ.out hqb hg HX5.out (ext_lit w5 _ _) A1.out A2.out A3.out rfl
                  generalize w7.setCell ⟨db, 1, none⟩ (Value.slice (some ⟨gv, 0, none⟩) ((newD pat (l.take k) win limit).n + 1) cv) = w8 at *
                  have ed : newD pat (l.take (k + 1)) win limit = { newD pat (l.take k) win limit with loops := (newD pat (l.take k) win limit).loops ++ [⟨(D:Int), n, b, s⟩], qs := (newD pat (l.take k) win limit).qs ++ [List.replicate D 0] } := by
                    rw [List.take_succ_eq_append_getElem hlt, newD_snoc, ← HXE.out]; simp
                  rw [← ed] at hd'
                  have hx8 : Ext w w8 := (HX.out.tr G3.out).then_only ho' (fun c hc => by
                    rcases Nat.lt_or_ge c w.heap.size with h1 | h1
                    · have h2 := HR.out c h1
                      rcases hc with hc | hc
                      · have := HD3.out.loops.2 c hc; omega
                      · subst hc; have := HD3.out.rdb; omega
                    · exact h1)
                  have hr2 : ∀ b, b < w.heap.size → ρ' b = 0 := fun b hb => by
                    rw [hr' b (Nat.lt_of_lt_of_le hb (HX.out.tr G3.out).size)]; exact HR.out b hb
                  have F1 := Lib.hid hd'
                  have F2 := Lib.hid hx8
                  have F3 := Lib.hid hr2
                  clear hd' hx8 hr2
                  clear ed hr' ho' A1 A2 A3 HQ HX5 c7 f7
                  go_wp2
                  go_roundw
                  case rel => exact ⟨k + 1, by omega, by go_num, _, _, F1.out, F3.out, F2.out⟩
                  case measure => simp [intOf]; omega)
              · obtain rfl : k = l.length := by omega
                have hd9 := HD.out
                rw [List.take_length] at hd9
                have HD9 := Lib.hid hd9
                clear hd9
                clear HD
                go_wp2
                go_ret2
                exact .inr ⟨her.trans her2, db, m, ρ, rfl, HD9.out, HR.out, HX.out⟩
          · have HBAD : ¬ GoodP pat win ∨ ¬ (0 ≤ limit ∧ limit ≤ 1000000) := .inr hlim
            have her2 : er = 6 := by
              rw [← her]; unfold newErr
              rw [if_neg (fun h => h ⟨a11, a12⟩), if_neg HNE.out, if_neg (fun h => h HLN.out), if_pos HBAD]
            subst her2
            clear her
            have HBAD2 := Lib.hid hlim
            clear HBAD hlim
            go_wp2_with (first
              | (go_at_call 41
                 refine (clone_any pat _ _ (HP.out.ext HX.out) (by omega)).mono ?_
                 rintro e w2 ⟨v1, rfl, hx2, ho2⟩
                 have ho2' := owns_weak ho2 HX.out.size
                 obtain ⟨a1, c1, hv1, _⟩ := (show Ints w2 v1 pat from Sl.of_owns ho2).form
                 subst hv1
                 replace HX := Lib.hid (HX.out.ext hx2)
                 have HO := Lib.hid ho2'
                 clear ho2'
                 clear hx2 ho2)
              | (with_reducible refine wpList_boxA (t := 85) (cs := #[.slice a1 pat.length c1, .int .i64 win]) rfl rfl rfl ?_
                 rintro mb w3 hb3 hx3 hl3
                 have ho3 := owns_ext HO.out hx3
                 replace HX := Lib.hid (HX.out.ext hx3)
                 have c3 := hb3.cell
                 have HO3 := Lib.hid ho3
                 clear ho3
                 clear hb3 hx3 HO)
              | (go_at_call 32
                 refine (right_any pat a1 c1 win _ (Sl.of_owns HO3.out) hw HPB.out).mono ?_
                 rintro e w4 ⟨rfl, hx4⟩
                 rw [HGB.out]
                 replace HX := Lib.hid (HX.out.ext hx4)
                 clear hx4 c3)
              | (go_at_call 31; refine (in_false _ _ _ _ HBAD2.out).mono ?_; rintro e w5 ⟨rfl, rfl⟩))
            go_ret2
            exact HPO.out _ (by omega) HX.out
        · have HGB := Lib.hid (goodB_false hgp)
          have HBAD : ¬ GoodP pat win ∨ ¬ (0 ≤ limit ∧ limit ≤ 1000000) := .inl hgp
          have her2 : er = 6 := by
            rw [← her]; unfold newErr
            rw [if_neg (fun h => h ⟨a11, a12⟩), if_neg HNE.out, if_neg (fun h => h HLN.out), if_pos HBAD]
          subst her2
          clear her
          have HBAD2 := Lib.hid (trivial)
          clear HBAD hgp
          go_wp2_with (first
            | (go_at_call 41
               refine (clone_any pat _ _ (HP.out.ext HX.out) (by omega)).mono ?_
               rintro e w2 ⟨v1, rfl, hx2, ho2⟩
               have ho2' := owns_weak ho2 HX.out.size
               obtain ⟨a1, c1, hv1, _⟩ := (show Ints w2 v1 pat from Sl.of_owns ho2).form
               subst hv1
               replace HX := Lib.hid (HX.out.ext hx2)
               have HO := Lib.hid ho2'
               clear ho2'
               clear hx2 ho2)
            | (with_reducible refine wpList_boxA (t := 85) (cs := #[.slice a1 pat.length c1, .int .i64 win]) rfl rfl rfl ?_
               rintro mb w3 hb3 hx3 hl3
               have ho3 := owns_ext HO.out hx3
               replace HX := Lib.hid (HX.out.ext hx3)
               have c3 := hb3.cell
               have HO3 := Lib.hid ho3
               clear ho3
               clear hb3 hx3 HO)
            | (go_at_call 32
               refine (right_any pat a1 c1 win _ (Sl.of_owns HO3.out) hw HPB.out).mono ?_
               rintro e w4 ⟨rfl, hx4⟩
               rw [HGB.out]
               replace HX := Lib.hid (HX.out.ext hx4)
               clear hx4 c3)
            | (go_at_call 31; refine (in_false _ _ _ _ HBAD2.out).mono ?_; rintro e w5 ⟨rfl, rfl⟩))
          go_ret2
          exact HPO.out _ (by omega) HX.out
      · have d1 : ((l.length : Int) == (pat.length : Int) - 1) = false := by simp [hln]
        have d2 : ((l.length : Int) != (pat.length : Int) - 1) = true := by simp [hln]
        have her2 : er = 1 := by
          rw [← her]; unfold newErr
          rw [if_neg (fun h => h ⟨a11, a12⟩), if_neg hnoex, if_pos hln]
        subst her2
        clear her hln
        go_wp2
        go_ret2
        exact HPO.out _ (by omega) HX.out
end Go.Proofs.Ytafnadaahnkcmaa
