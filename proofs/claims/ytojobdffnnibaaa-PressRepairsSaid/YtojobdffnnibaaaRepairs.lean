/- PressRepairs: the walk. -/
import Derived.Test.YtojobdffnnibaaaRepKit
import Derived.Test.YtojobdffnnibaaaAwake7
import Derived.Deep.CutBlock
namespace Go.Proofs.Ytojobdffnnibaaa
open Go.RowKit
set_option linter.unusedVariables false
set_option linter.unusedSimpArgs false

set_option maxRecDepth 100000 in
set_option maxHeartbeats 4000000 in
theorem repairs_true (p : PressD) (on : List Bool) (tn : Int) (vj vo : Value) (w : World) (hj : Truths w vj p.jam) (hjl : p.jam.length ≤ 140737488355328) (hon : Truths w vo on) (htn : I64 tn) :
    Calls Try.prog 6 #[pV vj p, vo, .int .i64 tn] w fun e w' => e = .returned (.bool true) ∧ Ext w w' := by
  have hown := fun W (k : Ext w W) => own_any p vj W (Sl.ext hj k) hjl
  have hj0 := hj
  obtain ⟨_, aj, cj, hvj, _, hcj⟩ := hj
  rw [List.length_map] at hvj hcj
  subst hvj
  obtain ⟨hol, ao, co, hvo, _, hco⟩ := hon
  rw [List.length_map] at hvo hco hol
  subst hvo
  obtain ⟨nj, hnj⟩ : ∃ m, p.jam.length = m := ⟨_, rfl⟩
  obtain ⟨no, hno⟩ : ∃ m, on.length = m := ⟨_, rfl⟩
  rw [hnj] at hjl hcj ⊢
  rw [hno] at hol hco ⊢
  unfold pV at hown ⊢
  rw [hnj] at hown
  have HOWN := Lib.hid hown
  have HNJ := Lib.hid hnj
  have HNO := Lib.hid hno
  have HCJ := Lib.hid hcj
  have HCO := Lib.hid hco
  have HTN := Lib.hid htn
  clear hown hnj hno hcj hco htn
  clear hj0
  go_enter Try.func6, Try.ntmps6
  go_upto_region 2 with (first
    | (with_reducible refine wpList_boxA (t := 24) (cs := #[.slice aj nj cj, .int .i64 p.warm, .int .i64 p.tail, .int .i64 p.dirt]) rfl rfl rfl ?_
       rintro xb w1 hx1 hx2 hx3
       have c1 := hx1.cell
       clear hx3
       have XB := Lib.hid hx1
       have X := Lib.hid hx2
       clear hx1 hx2)
    | (have hgd := HOWN.out
       go_at_call 11
       refine (hgd _ X.out).mono ?_
       rintro e w2 ⟨v1, rfl, hx, ho1⟩
       obtain ⟨va, ca, rfl⟩ := row_form ho1
       clear hgd HOWN c1
       have xb2 := XB.out.ext hx
       have x2 := X.out.tr hx
       clear XB X hx
       have XB := Lib.hid xb2
       have X := Lib.hid x2
       have OA := Lib.hid ho1
       clear xb2 x2 ho1)
    | (with_reducible refine wpList_allocA (t := 32) rfl rfl Try.zeroValue32 ?_
       rintro pb w3 hx1 hx2 hx3
       have lz : w2.heap.size ≤ pb := hx3
       clear hx3
       have PB := Lib.hid hx1
       have Z := Lib.hid hx2
       have LZ := Lib.hid lz
       clear hx1 hx2 lz)
    | (with_reducible refine wpList_storeK (ty := 32) (cells := #[.slice va nj ca, .int .i64 p.warm, .int .i64 p.tail, .int .i64 p.dirt]) rfl rfl PB.out ?_ ?_ ?_ ?_ ?_ ?_
       · rfl
       · rfl
       · kernel_rfl
       · rfl
       · simp [Value.oneCell']
       rintro w4 hb4 ho4
       have hx := Z.out.then_only ho4 (fun k (e : k = pb) => by rw [e]; exact LZ.out)
       have xb2 := XB.out.ext hx
       have x2 := X.out.tr hx
       have oa2 := owns_ext OA.out hx
       have c1 := xb2.cell
       have c2 := hb4.cell
       clear XB X OA Z LZ PB ho4 hx
       have XB := Lib.hid xb2
       have X := Lib.hid x2
       have OA := Lib.hid oa2
       have PB := Lib.hid hb4
       clear xb2 x2 oa2 hb4))
  have htr : Truths w4 (.slice va nj ca) p.jam := Sl.of_owns OA.out
  have hck := fun W (k : Ext w4 W) => check_any p (.slice va nj ca) W (Sl.ext htr k)
  obtain ⟨e1, he1⟩ : ∃ e, pErr p = e := ⟨_, rfl⟩
  rw [he1] at hck
  have HCK := Lib.hid hck
  have HTR := Lib.hid htr
  have HE1 := Lib.hid he1
  clear hck htr he1
  by_cases h1 : e1 = 0
  · subst h1
    have hl := pErr_len HE1.out
    rw [HNJ.out] at hl
    have i2 : decide ((3:Int) < (nj:Int)) = false := decide_eq_false (by omega)
    have i3 : ((nj:Int) == 0) = false := by simp; omega
    have i3' : decide ((nj:Int) = 0) = false := decide_eq_false (by omega)
    by_cases h2 : no = nj
    · subst h2
      have j1 : ((no:Int) != (no:Int)) = false := by simp
      go_upto_region 4 with (
        go_at_call 19
        refine (HCK.out _ (Below.refl _ _)).mono ?_
        rintro e w5 ⟨rfl, hx⟩
        have xb2 := XB.out.ext hx
        have pb2 := PB.out.ext hx
        have x2 := X.out.tr hx
        have tr2 := Sl.ext HTR.out hx
        clear c1 c2 XB PB X HTR hx HCK
        have c1 := xb2.cell
        have c2 := pb2.cell
        have X := Lib.hid x2
        have XB := Lib.hid xb2
        have PB := Lib.hid pb2
        have HTR := Lib.hid tr2
        clear x2 xb2 pb2 tr2)
      clear i2 i3 i3' j1
      have hbd : beginD p = stF 0 (fun _ => uZ) no := by
        unfold beginD stF
        rw [HNJ.out]
        congr 1
        apply List.ext_getElem
        · simp
        · intro q h1 h2; simp [uZ]
      have hg0 := begin_good HE1.out
      have hbg := fun W (k : Ext w5 W) => gd_begin (.slice va no ca) W (Sl.ext HTR.out k) HE1.out
      rw [hbd] at hbg hg0
      have a7 : actErr p (stF 0 (fun _ => uZ) no) 7 ((0:Nat):Int) = 0 := act_ok (by omega) (by omega) (by rw [stF_len]; omega) (fun _ => rfl) (by
        unfold allowD
        rw [stF_opened 0 _ no (fun j _ => rfl)]
        simp [stF])
      have d7 : doD (stF 0 (fun _ => uZ) no) 7 0 = stF 1 (rpF p.jam on 0) no := by rw [rpF_zero]; rfl
      have hd1 := fun vu W (k : Ext w5 W) ho => do_ok hg0 7 0 a7 d7 (.slice va no ca) vu W (Sl.ext HTR.out k) ho
      unfold pV sV at hbg
      unfold pV sV at hd1
      have hln := fun (f : Nat → UnitD) d => stF_len d f no
      have HBG := Lib.hid hbg
      have HD1 := Lib.hid hd1
      have HLN := Lib.hid hln
      clear hbg hd1 hln
      clear hbd a7 d7 hg0
      go_upto_region 5 with (first
        | (go_at_call 20
           refine (HBG.out _ (Below.refl _ _)).mono ?_
           rintro e w6 ⟨v, rfl, hown, hx⟩
           obtain ⟨ab, cb, hvb⟩ := hown.form
           rw [stF_len] at hvb
           subst hvb
           have xb2 := XB.out.ext hx
           have pb2 := PB.out.ext hx
           have x2 := X.out.tr hx
           have tr2 := Sl.ext HTR.out hx
           clear c1 c2 XB PB X HTR HBG
           have X := Lib.hid x2
           have XB := Lib.hid xb2
           have PB := Lib.hid pb2
           have HTR := Lib.hid tr2
           have OW := Lib.hid hown
           have Y := Lib.hid hx
           clear x2 xb2 pb2 tr2 hown hx)
        | (with_reducible refine wpList_allocA (t := 36) rfl rfl Try.zeroValue36 ?_
           rintro sb w7 hx1 hx2 hx3
           have lz : w6.heap.size ≤ sb := hx3
           clear hx3
           have SB := Lib.hid hx1
           have Z := Lib.hid hx2
           have LZ := Lib.hid lz
           clear hx1 hx2 lz)
        | (with_reducible refine wpList_storeK (ty := 36) (cells := #[.int .i64 0, .bool false, .slice ab no cb, .int .i64 0]) rfl rfl SB.out ?_ ?_ ?_ ?_ ?_ ?_
           · rfl
           · rfl
           · kernel_rfl
           · rfl
           · simp [Value.oneCell']
           rintro w8 hb8 ho8
           have hx := Z.out.then_only ho8 (fun k (e : k = sb) => by rw [e]; exact LZ.out)
           have y2 := Y.out.tr hx
           have ow2 := OW.out.ext hx
           have xb6 := XB.out
           have pb6 := PB.out
           have tr6 := HTR.out
           have x6 := X.out
           have c2 := (PB.out.ext hx).cell
           have c3 := hb8.cell
           clear XB PB X HTR OW Z SB ho8 Y
           have X6 := Lib.hid x6
           have XB6 := Lib.hid xb6
           have PB6 := Lib.hid pb6
           have TR6 := Lib.hid tr6
           have OW := Lib.hid ow2
           have SB := Lib.hid hb8
           have X68 := Lib.hid hx
           have Y := Lib.hid y2
           clear x6 xb6 pb6 tr6 ow2 hb8 hx y2))
      go_upto_region 6 with (first
        | (go_at_call 22
           obtain ⟨hg1, hcall⟩ := HD1.out _ _ Y.out OW.out
           refine hcall.mono ?_
           rintro e w9 ⟨v, rfl, hown, hx⟩
           obtain ⟨a1, c1, hv1⟩ := hown.form
           rw [stF_len] at hv1
           subst hv1
           have sb2 := SB.out.ext hx
           have x2 := X68.out.tr hx
           clear c2 c3 SB X68 hx hcall OW Y HD1
           have SB := Lib.hid sb2
           have X68 := Lib.hid x2
           have OW := Lib.hid hown
           have GD := Lib.hid hg1
           clear sb2 x2 hown hg1)
        | (with_reducible refine wpList_storeK (ty := 36) (cells := #[.int .i64 1, .bool false, .slice a1 no c1, .int .i64 0]) rfl rfl SB.out ?_ ?_ ?_ ?_ ?_ ?_
           · rfl
           · rfl
           · kernel_rfl
           · rfl
           · simp [Value.oneCell']
           rintro wA hb ho
           have how : OwU wA (.slice a1 no c1) (stF 1 (rpF p.jam on 0) no) := owns_only OW.out ho (owns_ne' OW.out SB.out (by decide))
           have x2 := X68.out.then_only ho (fun k (e : k = sb) => by rw [e]; exact LZ.out)
           clear SB OW X68 ho
           have SB := Lib.hid hb
           have OW := Lib.hid how
           have X68 := Lib.hid x2
           clear hb how x2))
      go_upto_region 10 with (fail)
      obtain ⟨AN, hAN⟩ : ∃ AN : Nat → Bool, AN = fun k => (List.range k).any fun j => !p.jam.getD j false && on.getD j false := ⟨_, rfl⟩
      have hA0 : AN 0 = false := by rw [hAN]; rfl
      have hA1 : ∀ k, AN (k + 1) = (AN k || (!p.jam.getD k false && on.getD k false)) := fun k => by rw [hAN]; simp only [List.range_succ, List.any_append, List.any_cons, List.any_nil, Bool.or_false]
      have HAN := Lib.hid hAN
      have HA0 := Lib.hid hA0
      have HA1 := Lib.hid hA1
      clear hAN hA0 hA1
      go_loopw [12, 11] (fun t12 t11 wr => ∃ (k : Nat) (ta : Option Addr) (tc : Nat), k ≤ no ∧ t12 = .int .i64 k ∧ t11 = .bool (AN k) ∧ Hid (Good p (stF 1 (rpF p.jam on k) no)) ∧ Hid (Blk wr sb #[.int .i64 1, .bool false, .slice ta no tc, .int .i64 0] 36) ∧ Hid (OwU wr (.slice ta no tc) (stF 1 (rpF p.jam on k) no)) ∧ Hid (Ext w6 wr)) (fun t12 _ _ => no - (intOf t12).toNat)
      case atStart => exact ⟨0, a1, c1, by omega, rfl, by rw [HA0.out], GD, SB, OW, X68⟩
      case round =>
        obtain ⟨k, ta, tc, hk, rfl, rfl, GT, SB2, OT, X2⟩ := hrel
        by_cases hlt : k < no
        · obtain ⟨bj, oj, rfl, hcj2⟩ := HCJ.out (by omega)
          obtain ⟨bo, oo, rfl, hco2⟩ := HCO.out (by omega)
          have hkj : k < p.jam.length := by rw [HNJ.out]; exact hlt
          have hko : k < on.length := by rw [HNO.out]; exact hlt
          have hgj : p.jam.getD k false = p.jam[k] := by rw [List.getD_eq_getElem?_getD, List.getElem?_eq_getElem hkj]; rfl
          have hgo : on.getD k false = on[k] := by rw [List.getD_eq_getElem?_getD, List.getElem?_eq_getElem hko]; rfl
          have dj0 := hcj2 k (.bool p.jam[k]) (by simp [hkj])
          have do0 := hco2 k (.bool on[k]) (by simp [hko])
          rw [← hgj] at dj0
          rw [← hgo] at do0
          obtain ⟨jk, hjk⟩ : ∃ b, p.jam.getD k false = b := ⟨_, rfl⟩
          obtain ⟨ok, hok⟩ : ∃ b, on.getD k false = b := ⟨_, rfl⟩
          have ha1 := HA1.out k
          rw [hjk] at dj0 ha1
          rw [hok] at do0 ha1
          obtain ⟨ak, hak⟩ : ∃ b, AN k = b := ⟨_, rfl⟩
          rw [hak] at ha1 ⊢
          have i1 : (0:Int) ≤ (k:Int) := by omega
          have i2 : (k:Int) < (no:Int) := by omega
          have dj := X2.out.cellSome (X6.out.cellSome dj0)
          have c1 := (XB6.out.ext X2.out).cell
          clear hcj2 hco2 hgj hgo
          have HJK := Lib.hid hjk
          have HOK := Lib.hid hok
          have HA := Lib.hid ha1
          have DO0 := Lib.hid do0
          have HAK := Lib.hid hak
          have DJ0 := Lib.hid dj0
          clear hjk hok ha1 do0 hak dj0
          go_upto_region 13 with (fail)
          have hnb := newB wr #[.int .i64 4, .int .i64 k, .int .i64 3, .int .i64 k, .int .i64 5, .int .i64 k] 63
          have lbk : Blk (wr.alloc (.cells #[.int .i64 4, .int .i64 k, .int .i64 3, .int .i64 k, .int .i64 5, .int .i64 k] 63)) wr.heap.size #[.int .i64 4, .int .i64 k, .int .i64 3, .int .i64 k, .int .i64 5, .int .i64 k] 63 := hnb.1
          have hxl := hnb.2.1
          clear hnb dj c1
          generalize wr.alloc (.cells #[.int .i64 4, .int .i64 k, .int .i64 3, .int .i64 k, .int .i64 5, .int .i64 k] 63) = wl at *
          have sb2 := SB2.out.ext hxl
          have ot2 := OT.out.ext hxl
          have x2 := X2.out.tr hxl
          have dj := x2.cellSome (X6.out.cellSome DJ0.out)
          have c1 := (XB6.out.ext x2).cell
          obtain ⟨lb, hlb⟩ : ∃ n, wr.heap.size = n := ⟨_, rfl⟩
          rw [hlb] at lbk ⊢
          clear SB2 OT X2 hxl hlb
          have SB2 := Lib.hid sb2
          have OT := Lib.hid ot2
          have X2 := Lib.hid x2
          have LB := Lib.hid lbk
          clear sb2 ot2 x2 lbk
          have do2 := X2.out.cellSome (X6.out.cellSome DO0.out)
          cases jk
          · cases ok
            · skip
              go_upto_region 20 with (fail)
              clear dj c1 do2
              go_loopw [16] (fun t16 wr => ∃ (q : Nat) (ta2 : Option Addr) (tc2 : Nat), q ≤ 2 ∧ t16 = .int .i64 q ∧ Hid (Good p (stF 1 (upd (rpF p.jam on k) k (subU q)) no)) ∧ Hid (Blk wr sb #[.int .i64 1, .bool false, .slice ta2 no tc2, .int .i64 0] 36) ∧ Hid (OwU wr (.slice ta2 no tc2) (stF 1 (upd (rpF p.jam on k) k (subU q)) no)) ∧ Hid (Ext w6 wr) ∧ Hid (Blk wr lb #[.int .i64 4, .int .i64 k, .int .i64 3, .int .i64 k, .int .i64 5, .int .i64 k] 63)) (fun t16 _ => 2 - (intOf t16).toNat)
              case atStart =>
                have h0 : upd (rpF p.jam on k) k (subU 0) = rpF p.jam on k := by rw [← rpF_at p.jam on k, upd_id]
                exact ⟨0, ta, tc, by omega, rfl, by rw [h0]; exact GT, SB2, by rw [h0]; exact OT, X2, LB⟩
              case round =>
                obtain ⟨q, ta2, tc2, hq, rfl, GQ, SB3, OQ, X3, LB3⟩ := hrel
                by_cases hlq : q < 2
                · obtain ⟨hsa, hsd⟩ := sub_act (p := p) (f := rpF p.jam on k) (n := no) (k := k) (q := q) hlt HJK.out (by omega)
                  have i3 : (0:Int) ≤ (q:Int) := by omega
                  have i4 : (q:Int) < 2 := by omega
                  have hdk := fun W (kx : Ext w6 W) ho => do_ok GQ.out (rpK q) k hsa hsd (.slice va no ca) (.slice ta2 no tc2) W (Sl.ext TR6.out kx) ho
                  unfold pV sV at hdk
                  have hG2 : Good p (stF 1 (upd (rpF p.jam on k) k (subU (q + 1))) no) := (hdk wr X3.out OQ.out).1
                  have hq3 : q = 0 ∨ q = 1 ∨ q = 2 := by omega
                  have lk : (#[.int .i64 4, .int .i64 k, .int .i64 3, .int .i64 k, .int .i64 5, .int .i64 k] : Array Value)[q * 2]? = some (.int .i64 (rpK q)) ∧ (#[.int .i64 4, .int .i64 k, .int .i64 3, .int .i64 k, .int .i64 5, .int .i64 k] : Array Value)[q * 2 + 1]? = some (.int .i64 k) := by
                    rcases hq3 with rfl | rfl | rfl <;> exact ⟨rfl, rfl⟩
                  clear hsa hsd hq3
                  have HDK := Lib.hid hdk
                  have HG2 := Lib.hid hG2
                  have LK := Lib.hid lk
                  clear hdk hG2 lk
                  go_upto_region 22 with (fail)
                  go_cut [9] (fun v W => v = .int .i64 0 ∧ ∃ a' c', Hid (Blk W sb #[.int .i64 1, .bool false, .slice a' no c', .int .i64 0] 36) ∧ Hid (OwU W (.slice a' no c') (stF 1 (upd (rpF p.jam on k) k (subU (q + 1))) no)) ∧ Hid (Ext w6 W) ∧ Hid (Blk W lb #[.int .i64 4, .int .i64 k, .int .i64 3, .int .i64 k, .int .i64 5, .int .i64 k] 63))
                  case first =>
                    as_aux_lemma =>
                      have hS : ∀ W, Ext wr W → ((∀ j, W.cell? ⟨pb, j, none⟩ = (#[.slice va no ca, .int .i64 p.warm, .int .i64 p.tail, .int .i64 p.dirt] : Array Value)[j]?) ∧ (∀ j, W.cell? ⟨sb, j, none⟩ = (#[.int .i64 1, .bool false, .slice ta2 no tc2, .int .i64 0] : Array Value)[j]?) ∧ (W.cell? ⟨lb, q * 2, none⟩ = some (.int .i64 (rpK q)) ∧ W.cell? ⟨lb, q * 2 + 1, none⟩ = some (.int .i64 k))) := fun W hx =>
                        ⟨(PB6.out.ext (X3.out.tr hx)).cell, (SB3.out.ext hx).cell, ((LB3.out.ext hx).cell _).trans LK.out.1, ((LB3.out.ext hx).cell _).trans LK.out.2⟩
                      have xd : Ext wr wr.drew := (Below.refl _ wr).drew
                      refine wp_region_K (fun wx => (∀ j, wx.cell? ⟨pb, j, none⟩ = (#[.slice va no ca, .int .i64 p.warm, .int .i64 p.tail, .int .i64 p.dirt] : Array Value)[j]?) ∧ (∀ j, wx.cell? ⟨sb, j, none⟩ = (#[.int .i64 1, .bool false, .slice ta2 no tc2, .int .i64 0] : Array Value)[j]?) ∧ (wx.cell? ⟨lb, q * 2, none⟩ = some (.int .i64 (rpK q)) ∧ wx.cell? ⟨lb, q * 2 + 1, none⟩ = some (.int .i64 k))) 9 (by kernel_rfl) (hS _ xd) (fun hHeld => ?_)
                      generalize wr.drew = wA at *
                      have XC := Lib.hid xd
                      have HS := Lib.hid hS
                      clear xd hS
                      refine wpAnyK_takeL (i := 0) (v := ?_) rfl (by kernel_rfl) (by kernel_rfl) (by kernel_rfl) (by kernel_rfl) (fun _ _ _ h => h) (Or.inl ⟨by rfl, ?_⟩) hHeld ?_
                      rotate_left
                      · intro w hSw; (try dsimp only at hSw); go_simp; (try with_reducible rfl)
                      try simp only [Act.put, List.setIfInBounds_toArray, List.set_cons_zero, List.set_cons_succ]
                      refine wpAnyK_takeL (i := 1) (v := ?_) rfl (by kernel_rfl) (by kernel_rfl) (by kernel_rfl) (by kernel_rfl) (fun _ _ _ h => h) (Or.inl ⟨by rfl, ?_⟩) hHeld ?_
                      rotate_left
                      · intro w hSw; (try dsimp only at hSw); go_simp; (try with_reducible rfl)
                      try simp only [Act.put, List.setIfInBounds_toArray, List.set_cons_zero, List.set_cons_succ]
                      refine wpAnyK_ready (rs := [2, 3]) (by kernel_rfl) (by simp) ?_
                      refine AllReadyK.consL (i := 2) rfl (fun K hK => ?_) ?_
                      · go_simp
                        refine hK.out _ _ (fun _ => HS.out _ XC.out) (fun hHeld2 => ?_)
                        clear hK K
                        try clear hHeld
                        have hHeld := hHeld2 (by decide)
                        clear hHeld2
                        try simp only [Act.put, List.setIfInBounds_toArray, List.set_cons_zero, List.set_cons_succ]
                        refine wpAnyK_ready (rs := [3]) (by kernel_rfl) (by simp) ?_
                        refine AllReadyK.consL (i := 3) rfl (fun K hK => ?_) ?_
                        · go_simp
                          refine hK.out _ _ (fun _ => HS.out _ XC.out) (fun hHeld2 => ?_)
                          clear hK K
                          try clear hHeld
                          have hHeld := hHeld2 (by decide)
                          clear hHeld2
                          try simp only [Act.put, List.setIfInBounds_toArray, List.set_cons_zero, List.set_cons_succ]
                          refine wpAnyK_ready (rs := [4]) (by kernel_rfl) (by simp) ?_
                          refine AllReadyK.consL (i := 4) rfl (fun K hK => ?_) ?_
                          · go_simp
                            refine hK.out _ _ (fun _ => HS.out _ XC.out) (fun hHeld2 => ?_)
                            clear hK K
                            try clear hHeld
                            have hHeld := hHeld2 (by decide)
                            clear hHeld2
                            try simp only [Act.put, List.setIfInBounds_toArray, List.set_cons_zero, List.set_cons_succ]
                            refine wpAnyK_takeL (i := 5) (v := ?_) rfl (by kernel_rfl) (by kernel_rfl) (by kernel_rfl) (by kernel_rfl) (fun _ _ _ h => h) (Or.inl ⟨by rfl, ?_⟩) hHeld ?_
                            rotate_left
                            · intro w hSw; (try dsimp only at hSw); go_simp; (try with_reducible rfl)
                            try simp only [Act.put, List.setIfInBounds_toArray, List.set_cons_zero, List.set_cons_succ]
                            refine wpAnyK_ready (rs := [6]) (by kernel_rfl) (by simp) ?_
                            refine AllReadyK.consL (i := 6) rfl (fun K hK => ?_) ?_
                            · refine step_call (vs := #[.agg #[.slice va no ca, .int .i64 p.warm, .int .i64 p.tail, .int .i64 p.dirt], .agg #[.int .i64 1, .bool false, .slice ta2 no tc2, .int .i64 0], .agg #[.int .i64 (rpK q), .int .i64 k]]) rfl rfl rfl Try.func22 (by kernel_rfl) (by kernel_rfl) (HDK.out _ (X3.out.tr XC.out) (OQ.out.ext XC.out)).2 ?_
                              rintro e wy ⟨vz, rfl, hoz, hx⟩
                              obtain ⟨az, cz, hvz⟩ := hoz.form
                              rw [stF_len] at hvz
                              subst hvz
                              refine ⟨_, rfl, ?_⟩
                              replace XC := Lib.hid (XC.out.tr hx)
                              have OZ := Lib.hid hoz
                              clear hx hoz
                              refine hK.out _ _ (fun _ => HS.out _ XC.out) (fun hHeld2 => ?_)
                              clear hK K
                              try clear hHeld
                              have hHeld := hHeld2 (by decide)
                              clear hHeld2
                              try simp only [Act.put, List.setIfInBounds_toArray, List.set_cons_zero, List.set_cons_succ]
                              refine wpAnyK_takeL (i := 7) (v := ?_) rfl (by kernel_rfl) (by kernel_rfl) (by kernel_rfl) (by kernel_rfl) (fun _ _ _ h => h) (Or.inl ⟨by rfl, ?_⟩) hHeld ?_
                              rotate_left
                              · intro w hSw; (try dsimp only at hSw); go_simp; (try with_reducible rfl)
                              try simp only [Act.put, List.setIfInBounds_toArray, List.set_cons_zero, List.set_cons_succ]
                              refine wpAnyK_ready (rs := [8, 9]) (by kernel_rfl) (by simp) ?_
                              refine AllReadyK.consL (i := 8) rfl (fun K hK => ?_) ?_
                              · go_simp
                                refine hK.out _ _ (fun _ => HS.out _ XC.out) (fun hHeld2 => ?_)
                                clear hK K
                                try clear hHeld
                                have hHeld := hHeld2 (by decide)
                                clear hHeld2
                                try simp only [Act.put, List.setIfInBounds_toArray, List.set_cons_zero, List.set_cons_succ]
                                refine wpAnyK_ready (rs := [9, 10]) (by kernel_rfl) (by simp) ?_
                                refine AllReadyK.consL (i := 9) rfl (fun K hK => ?_) ?_
                                · go_simp
                                  refine hK.out _ _ (fun h => absurd h (by decide)) (fun hHeld2 => ?_)
                                  clear hK K hHeld2
                                  try clear hHeld
                                  try simp only [Act.put, List.setIfInBounds_toArray, List.set_cons_zero, List.set_cons_succ]
                                  refine wpAnyK_ready (rs := [10]) (by kernel_rfl) (by simp) ?_
                                  refine AllReadyK.consL (i := 10) rfl (fun K hK => ?_) ?_
                                  · refine step_storeK (cells := #[.int .i64 1, .bool false, .slice az no cz, .int .i64 0]) rfl rfl (SB3.out.ext XC.out) rfl rfl (by kernel_rfl) rfl (by simp [Value.oneCell']) ?_
                                    intro wy hb ho
                                    have oz := owns_only OZ.out ho (owns_ne' OZ.out (SB3.out.ext XC.out) (by decide))
                                    have xz := (X3.out.tr XC.out).then_only ho (fun b (e : b = sb) => by rw [e]; exact LZ.out)
                                    have lz := (LB3.out.ext XC.out).only ho (fun e => absurd (blk_ty (LB3.out.ext XC.out) (e ▸ (SB3.out.ext XC.out))) (by decide))
                                    clear OZ ho
                                    have OZ := Lib.hid oz
                                    have XZ := Lib.hid xz
                                    have SZ := Lib.hid hb
                                    have LZB := Lib.hid lz
                                    clear oz xz hb lz
                                    refine hK.out _ _ (fun h => absurd h (by decide)) (fun hHeld2 => ?_)
                                    clear hK K hHeld2
                                    try clear hHeld
                                    try simp only [Act.put, List.setIfInBounds_toArray, List.set_cons_zero, List.set_cons_succ]
                                    refine wpAnyK_ready (rs := [11]) (by kernel_rfl) (by simp) ?_
                                    refine AllReadyK.consL (i := 11) rfl (fun K hK => ?_) ?_
                                    · go_simp
                                      refine hK.out _ _ (fun h => absurd h (by decide)) (fun hHeld2 => ?_)
                                      clear hK K hHeld2
                                      try clear hHeld
                                      try simp only [Act.put, List.setIfInBounds_toArray, List.set_cons_zero, List.set_cons_succ]
                                      refine wpAnyK_done (by kernel_rfl) ?_ _
                                      go_wp2
                                      go_meet
                                      case rel => exact ⟨rfl, az, cz, SZ, OZ, XZ, LZB⟩
                                    · exact AllReadyK.nil
                                  · exact AllReadyK.nil
                                refine AllReadyK.consL (i := 10) rfl (fun K hK => ?_) ?_
                                · refine step_storeK (cells := #[.int .i64 1, .bool false, .slice az no cz, .int .i64 0]) rfl rfl (SB3.out.ext XC.out) rfl rfl (by kernel_rfl) rfl (by simp [Value.oneCell']) ?_
                                  intro wy hb ho
                                  have oz := owns_only OZ.out ho (owns_ne' OZ.out (SB3.out.ext XC.out) (by decide))
                                  have xz := (X3.out.tr XC.out).then_only ho (fun b (e : b = sb) => by rw [e]; exact LZ.out)
                                  have lz := (LB3.out.ext XC.out).only ho (fun e => absurd (blk_ty (LB3.out.ext XC.out) (e ▸ (SB3.out.ext XC.out))) (by decide))
                                  clear OZ ho
                                  have OZ := Lib.hid oz
                                  have XZ := Lib.hid xz
                                  have SZ := Lib.hid hb
                                  have LZB := Lib.hid lz
                                  clear oz xz hb lz
                                  refine hK.out _ _ (fun h => absurd h (by decide)) (fun hHeld2 => ?_)
                                  clear hK K hHeld2
                                  try clear hHeld
                                  try simp only [Act.put, List.setIfInBounds_toArray, List.set_cons_zero, List.set_cons_succ]
                                  refine wpAnyK_ready (rs := [9]) (by kernel_rfl) (by simp) ?_
                                  refine AllReadyK.consL (i := 9) rfl (fun K hK => ?_) ?_
                                  · go_simp
                                    refine hK.out _ _ (fun h => absurd h (by decide)) (fun hHeld2 => ?_)
                                    clear hK K hHeld2
                                    try clear hHeld
                                    try simp only [Act.put, List.setIfInBounds_toArray, List.set_cons_zero, List.set_cons_succ]
                                    refine wpAnyK_ready (rs := [11]) (by kernel_rfl) (by simp) ?_
                                    refine AllReadyK.consL (i := 11) rfl (fun K hK => ?_) ?_
                                    · go_simp
                                      refine hK.out _ _ (fun h => absurd h (by decide)) (fun hHeld2 => ?_)
                                      clear hK K hHeld2
                                      try clear hHeld
                                      try simp only [Act.put, List.setIfInBounds_toArray, List.set_cons_zero, List.set_cons_succ]
                                      refine wpAnyK_done (by kernel_rfl) ?_ _
                                      go_wp2
                                      go_meet
                                      case rel => exact ⟨rfl, az, cz, SZ, OZ, XZ, LZB⟩
                                    · exact AllReadyK.nil
                                  · exact AllReadyK.nil
                                · exact AllReadyK.nil
                              refine AllReadyK.consL (i := 9) rfl (fun K hK => ?_) ?_
                              · go_simp
                                refine hK.out _ _ (fun h => absurd h (by decide)) (fun hHeld2 => ?_)
                                clear hK K hHeld2
                                try clear hHeld
                                try simp only [Act.put, List.setIfInBounds_toArray, List.set_cons_zero, List.set_cons_succ]
                                refine wpAnyK_ready (rs := [8]) (by kernel_rfl) (by simp) ?_
                                refine AllReadyK.consL (i := 8) rfl (fun K hK => ?_) ?_
                                · go_simp
                                  refine hK.out _ _ (fun _ => HS.out _ XC.out) (fun hHeld2 => ?_)
                                  clear hK K
                                  try clear hHeld
                                  have hHeld := hHeld2 (by decide)
                                  clear hHeld2
                                  try simp only [Act.put, List.setIfInBounds_toArray, List.set_cons_zero, List.set_cons_succ]
                                  refine wpAnyK_ready (rs := [10]) (by kernel_rfl) (by simp) ?_
                                  refine AllReadyK.consL (i := 10) rfl (fun K hK => ?_) ?_
                                  · refine step_storeK (cells := #[.int .i64 1, .bool false, .slice az no cz, .int .i64 0]) rfl rfl (SB3.out.ext XC.out) rfl rfl (by kernel_rfl) rfl (by simp [Value.oneCell']) ?_
                                    intro wy hb ho
                                    have oz := owns_only OZ.out ho (owns_ne' OZ.out (SB3.out.ext XC.out) (by decide))
                                    have xz := (X3.out.tr XC.out).then_only ho (fun b (e : b = sb) => by rw [e]; exact LZ.out)
                                    have lz := (LB3.out.ext XC.out).only ho (fun e => absurd (blk_ty (LB3.out.ext XC.out) (e ▸ (SB3.out.ext XC.out))) (by decide))
                                    clear OZ ho
                                    have OZ := Lib.hid oz
                                    have XZ := Lib.hid xz
                                    have SZ := Lib.hid hb
                                    have LZB := Lib.hid lz
                                    clear oz xz hb lz
                                    refine hK.out _ _ (fun h => absurd h (by decide)) (fun hHeld2 => ?_)
                                    clear hK K hHeld2
                                    try clear hHeld
                                    try simp only [Act.put, List.setIfInBounds_toArray, List.set_cons_zero, List.set_cons_succ]
                                    refine wpAnyK_ready (rs := [11]) (by kernel_rfl) (by simp) ?_
                                    refine AllReadyK.consL (i := 11) rfl (fun K hK => ?_) ?_
                                    · go_simp
                                      refine hK.out _ _ (fun h => absurd h (by decide)) (fun hHeld2 => ?_)
                                      clear hK K hHeld2
                                      try clear hHeld
                                      try simp only [Act.put, List.setIfInBounds_toArray, List.set_cons_zero, List.set_cons_succ]
                                      refine wpAnyK_done (by kernel_rfl) ?_ _
                                      go_wp2
                                      go_meet
                                      case rel => exact ⟨rfl, az, cz, SZ, OZ, XZ, LZB⟩
                                    · exact AllReadyK.nil
                                  · exact AllReadyK.nil
                                · exact AllReadyK.nil
                              · exact AllReadyK.nil
                            · exact AllReadyK.nil
                          · exact AllReadyK.nil
                        · exact AllReadyK.nil
                      refine AllReadyK.consL (i := 3) rfl (fun K hK => ?_) ?_
                      · go_simp
                        refine hK.out _ _ (fun _ => HS.out _ XC.out) (fun hHeld2 => ?_)
                        clear hK K
                        try clear hHeld
                        have hHeld := hHeld2 (by decide)
                        clear hHeld2
                        try simp only [Act.put, List.setIfInBounds_toArray, List.set_cons_zero, List.set_cons_succ]
                        refine wpAnyK_ready (rs := [2]) (by kernel_rfl) (by simp) ?_
                        refine AllReadyK.consL (i := 2) rfl (fun K hK => ?_) ?_
                        · go_simp
                          refine hK.out _ _ (fun _ => HS.out _ XC.out) (fun hHeld2 => ?_)
                          clear hK K
                          try clear hHeld
                          have hHeld := hHeld2 (by decide)
                          clear hHeld2
                          try simp only [Act.put, List.setIfInBounds_toArray, List.set_cons_zero, List.set_cons_succ]
                          refine wpAnyK_ready (rs := [4]) (by kernel_rfl) (by simp) ?_
                          refine AllReadyK.consL (i := 4) rfl (fun K hK => ?_) ?_
                          · go_simp
                            refine hK.out _ _ (fun _ => HS.out _ XC.out) (fun hHeld2 => ?_)
                            clear hK K
                            try clear hHeld
                            have hHeld := hHeld2 (by decide)
                            clear hHeld2
                            try simp only [Act.put, List.setIfInBounds_toArray, List.set_cons_zero, List.set_cons_succ]
                            refine wpAnyK_takeL (i := 5) (v := ?_) rfl (by kernel_rfl) (by kernel_rfl) (by kernel_rfl) (by kernel_rfl) (fun _ _ _ h => h) (Or.inl ⟨by rfl, ?_⟩) hHeld ?_
                            rotate_left
                            · intro w hSw; (try dsimp only at hSw); go_simp; (try with_reducible rfl)
                            try simp only [Act.put, List.setIfInBounds_toArray, List.set_cons_zero, List.set_cons_succ]
                            refine wpAnyK_ready (rs := [6]) (by kernel_rfl) (by simp) ?_
                            refine AllReadyK.consL (i := 6) rfl (fun K hK => ?_) ?_
                            · refine step_call (vs := #[.agg #[.slice va no ca, .int .i64 p.warm, .int .i64 p.tail, .int .i64 p.dirt], .agg #[.int .i64 1, .bool false, .slice ta2 no tc2, .int .i64 0], .agg #[.int .i64 (rpK q), .int .i64 k]]) rfl rfl rfl Try.func22 (by kernel_rfl) (by kernel_rfl) (HDK.out _ (X3.out.tr XC.out) (OQ.out.ext XC.out)).2 ?_
                              rintro e wy ⟨vz, rfl, hoz, hx⟩
                              obtain ⟨az, cz, hvz⟩ := hoz.form
                              rw [stF_len] at hvz
                              subst hvz
                              refine ⟨_, rfl, ?_⟩
                              replace XC := Lib.hid (XC.out.tr hx)
                              have OZ := Lib.hid hoz
                              clear hx hoz
                              refine hK.out _ _ (fun _ => HS.out _ XC.out) (fun hHeld2 => ?_)
                              clear hK K
                              try clear hHeld
                              have hHeld := hHeld2 (by decide)
                              clear hHeld2
                              try simp only [Act.put, List.setIfInBounds_toArray, List.set_cons_zero, List.set_cons_succ]
                              refine wpAnyK_takeL (i := 7) (v := ?_) rfl (by kernel_rfl) (by kernel_rfl) (by kernel_rfl) (by kernel_rfl) (fun _ _ _ h => h) (Or.inl ⟨by rfl, ?_⟩) hHeld ?_
                              rotate_left
                              · intro w hSw; (try dsimp only at hSw); go_simp; (try with_reducible rfl)
                              try simp only [Act.put, List.setIfInBounds_toArray, List.set_cons_zero, List.set_cons_succ]
                              refine wpAnyK_ready (rs := [8, 9]) (by kernel_rfl) (by simp) ?_
                              refine AllReadyK.consL (i := 8) rfl (fun K hK => ?_) ?_
                              · go_simp
                                refine hK.out _ _ (fun _ => HS.out _ XC.out) (fun hHeld2 => ?_)
                                clear hK K
                                try clear hHeld
                                have hHeld := hHeld2 (by decide)
                                clear hHeld2
                                try simp only [Act.put, List.setIfInBounds_toArray, List.set_cons_zero, List.set_cons_succ]
                                refine wpAnyK_ready (rs := [9, 10]) (by kernel_rfl) (by simp) ?_
                                refine AllReadyK.consL (i := 9) rfl (fun K hK => ?_) ?_
                                · go_simp
                                  refine hK.out _ _ (fun h => absurd h (by decide)) (fun hHeld2 => ?_)
                                  clear hK K hHeld2
                                  try clear hHeld
                                  try simp only [Act.put, List.setIfInBounds_toArray, List.set_cons_zero, List.set_cons_succ]
                                  refine wpAnyK_ready (rs := [10]) (by kernel_rfl) (by simp) ?_
                                  refine AllReadyK.consL (i := 10) rfl (fun K hK => ?_) ?_
                                  · refine step_storeK (cells := #[.int .i64 1, .bool false, .slice az no cz, .int .i64 0]) rfl rfl (SB3.out.ext XC.out) rfl rfl (by kernel_rfl) rfl (by simp [Value.oneCell']) ?_
                                    intro wy hb ho
                                    have oz := owns_only OZ.out ho (owns_ne' OZ.out (SB3.out.ext XC.out) (by decide))
                                    have xz := (X3.out.tr XC.out).then_only ho (fun b (e : b = sb) => by rw [e]; exact LZ.out)
                                    have lz := (LB3.out.ext XC.out).only ho (fun e => absurd (blk_ty (LB3.out.ext XC.out) (e ▸ (SB3.out.ext XC.out))) (by decide))
                                    clear OZ ho
                                    have OZ := Lib.hid oz
                                    have XZ := Lib.hid xz
                                    have SZ := Lib.hid hb
                                    have LZB := Lib.hid lz
                                    clear oz xz hb lz
                                    refine hK.out _ _ (fun h => absurd h (by decide)) (fun hHeld2 => ?_)
                                    clear hK K hHeld2
                                    try clear hHeld
                                    try simp only [Act.put, List.setIfInBounds_toArray, List.set_cons_zero, List.set_cons_succ]
                                    refine wpAnyK_ready (rs := [11]) (by kernel_rfl) (by simp) ?_
                                    refine AllReadyK.consL (i := 11) rfl (fun K hK => ?_) ?_
                                    · go_simp
                                      refine hK.out _ _ (fun h => absurd h (by decide)) (fun hHeld2 => ?_)
                                      clear hK K hHeld2
                                      try clear hHeld
                                      try simp only [Act.put, List.setIfInBounds_toArray, List.set_cons_zero, List.set_cons_succ]
                                      refine wpAnyK_done (by kernel_rfl) ?_ _
                                      go_wp2
                                      go_meet
                                      case rel => exact ⟨rfl, az, cz, SZ, OZ, XZ, LZB⟩
                                    · exact AllReadyK.nil
                                  · exact AllReadyK.nil
                                refine AllReadyK.consL (i := 10) rfl (fun K hK => ?_) ?_
                                · refine step_storeK (cells := #[.int .i64 1, .bool false, .slice az no cz, .int .i64 0]) rfl rfl (SB3.out.ext XC.out) rfl rfl (by kernel_rfl) rfl (by simp [Value.oneCell']) ?_
                                  intro wy hb ho
                                  have oz := owns_only OZ.out ho (owns_ne' OZ.out (SB3.out.ext XC.out) (by decide))
                                  have xz := (X3.out.tr XC.out).then_only ho (fun b (e : b = sb) => by rw [e]; exact LZ.out)
                                  have lz := (LB3.out.ext XC.out).only ho (fun e => absurd (blk_ty (LB3.out.ext XC.out) (e ▸ (SB3.out.ext XC.out))) (by decide))
                                  clear OZ ho
                                  have OZ := Lib.hid oz
                                  have XZ := Lib.hid xz
                                  have SZ := Lib.hid hb
                                  have LZB := Lib.hid lz
                                  clear oz xz hb lz
                                  refine hK.out _ _ (fun h => absurd h (by decide)) (fun hHeld2 => ?_)
                                  clear hK K hHeld2
                                  try clear hHeld
                                  try simp only [Act.put, List.setIfInBounds_toArray, List.set_cons_zero, List.set_cons_succ]
                                  refine wpAnyK_ready (rs := [9]) (by kernel_rfl) (by simp) ?_
                                  refine AllReadyK.consL (i := 9) rfl (fun K hK => ?_) ?_
                                  · go_simp
                                    refine hK.out _ _ (fun h => absurd h (by decide)) (fun hHeld2 => ?_)
                                    clear hK K hHeld2
                                    try clear hHeld
                                    try simp only [Act.put, List.setIfInBounds_toArray, List.set_cons_zero, List.set_cons_succ]
                                    refine wpAnyK_ready (rs := [11]) (by kernel_rfl) (by simp) ?_
                                    refine AllReadyK.consL (i := 11) rfl (fun K hK => ?_) ?_
                                    · go_simp
                                      refine hK.out _ _ (fun h => absurd h (by decide)) (fun hHeld2 => ?_)
                                      clear hK K hHeld2
                                      try clear hHeld
                                      try simp only [Act.put, List.setIfInBounds_toArray, List.set_cons_zero, List.set_cons_succ]
                                      refine wpAnyK_done (by kernel_rfl) ?_ _
                                      go_wp2
                                      go_meet
                                      case rel => exact ⟨rfl, az, cz, SZ, OZ, XZ, LZB⟩
                                    · exact AllReadyK.nil
                                  · exact AllReadyK.nil
                                · exact AllReadyK.nil
                              refine AllReadyK.consL (i := 9) rfl (fun K hK => ?_) ?_
                              · go_simp
                                refine hK.out _ _ (fun h => absurd h (by decide)) (fun hHeld2 => ?_)
                                clear hK K hHeld2
                                try clear hHeld
                                try simp only [Act.put, List.setIfInBounds_toArray, List.set_cons_zero, List.set_cons_succ]
                                refine wpAnyK_ready (rs := [8]) (by kernel_rfl) (by simp) ?_
                                refine AllReadyK.consL (i := 8) rfl (fun K hK => ?_) ?_
                                · go_simp
                                  refine hK.out _ _ (fun _ => HS.out _ XC.out) (fun hHeld2 => ?_)
                                  clear hK K
                                  try clear hHeld
                                  have hHeld := hHeld2 (by decide)
                                  clear hHeld2
                                  try simp only [Act.put, List.setIfInBounds_toArray, List.set_cons_zero, List.set_cons_succ]
                                  refine wpAnyK_ready (rs := [10]) (by kernel_rfl) (by simp) ?_
                                  refine AllReadyK.consL (i := 10) rfl (fun K hK => ?_) ?_
                                  · refine step_storeK (cells := #[.int .i64 1, .bool false, .slice az no cz, .int .i64 0]) rfl rfl (SB3.out.ext XC.out) rfl rfl (by kernel_rfl) rfl (by simp [Value.oneCell']) ?_
                                    intro wy hb ho
                                    have oz := owns_only OZ.out ho (owns_ne' OZ.out (SB3.out.ext XC.out) (by decide))
                                    have xz := (X3.out.tr XC.out).then_only ho (fun b (e : b = sb) => by rw [e]; exact LZ.out)
                                    have lz := (LB3.out.ext XC.out).only ho (fun e => absurd (blk_ty (LB3.out.ext XC.out) (e ▸ (SB3.out.ext XC.out))) (by decide))
                                    clear OZ ho
                                    have OZ := Lib.hid oz
                                    have XZ := Lib.hid xz
                                    have SZ := Lib.hid hb
                                    have LZB := Lib.hid lz
                                    clear oz xz hb lz
                                    refine hK.out _ _ (fun h => absurd h (by decide)) (fun hHeld2 => ?_)
                                    clear hK K hHeld2
                                    try clear hHeld
                                    try simp only [Act.put, List.setIfInBounds_toArray, List.set_cons_zero, List.set_cons_succ]
                                    refine wpAnyK_ready (rs := [11]) (by kernel_rfl) (by simp) ?_
                                    refine AllReadyK.consL (i := 11) rfl (fun K hK => ?_) ?_
                                    · go_simp
                                      refine hK.out _ _ (fun h => absurd h (by decide)) (fun hHeld2 => ?_)
                                      clear hK K hHeld2
                                      try clear hHeld
                                      try simp only [Act.put, List.setIfInBounds_toArray, List.set_cons_zero, List.set_cons_succ]
                                      refine wpAnyK_done (by kernel_rfl) ?_ _
                                      go_wp2
                                      go_meet
                                      case rel => exact ⟨rfl, az, cz, SZ, OZ, XZ, LZB⟩
                                    · exact AllReadyK.nil
                                  · exact AllReadyK.nil
                                · exact AllReadyK.nil
                              · exact AllReadyK.nil
                            · exact AllReadyK.nil
                          · exact AllReadyK.nil
                        · exact AllReadyK.nil
                      · exact AllReadyK.nil
                  case rest =>
                  obtain ⟨rfl, a', c', SB4, OQ4, X4, LB4⟩ := hcut
                  go_wp2
                  go_roundw
                  case rel => exact ⟨q + 1, a', c', by omega, by go_num, HG2, SB4, OQ4, X4, LB4⟩
                  case measure => first | (simp [intOf]; done) | (simp [intOf]; omega)
                · have i4 : decide ((q:Int) < 2) = false := decide_eq_false (by omega)
                  obtain rfl : q = 2 := by omega
                  have hnx := rpF_next p.jam on k HJK.out 2 (by rw [HOK.out]; rfl)
                  have gq := GQ.out
                  have oq := OQ.out
                  rw [hnx] at gq oq
                  have do1 := X3.out.cellSome (X6.out.cellSome DO0.out)
                  have hae : AN (k + 1) = ak := by rw [HA.out]; simp
                  have GQ2 := Lib.hid gq
                  have OQ2 := Lib.hid oq
                  have HAE := Lib.hid hae
                  clear gq oq hae
                  clear hnx
                  cases ak
                  all_goals
                    go_wp2
                    go_roundw
                    case rel => exact ⟨k + 1, ta2, tc2, by omega, by go_num, by rw [HAE.out] <;> rfl, GQ2, SB3, OQ2, X3⟩
                    case measure => first | (simp [intOf]; done) | (simp [intOf]; omega)
            · skip
              go_upto_region 20 with (fail)
              clear dj c1 do2
              go_loopw [16] (fun t16 wr => ∃ (q : Nat) (ta2 : Option Addr) (tc2 : Nat), q ≤ 3 ∧ t16 = .int .i64 q ∧ Hid (Good p (stF 1 (upd (rpF p.jam on k) k (subU q)) no)) ∧ Hid (Blk wr sb #[.int .i64 1, .bool false, .slice ta2 no tc2, .int .i64 0] 36) ∧ Hid (OwU wr (.slice ta2 no tc2) (stF 1 (upd (rpF p.jam on k) k (subU q)) no)) ∧ Hid (Ext w6 wr) ∧ Hid (Blk wr lb #[.int .i64 4, .int .i64 k, .int .i64 3, .int .i64 k, .int .i64 5, .int .i64 k] 63)) (fun t16 _ => 3 - (intOf t16).toNat)
              case atStart =>
                have h0 : upd (rpF p.jam on k) k (subU 0) = rpF p.jam on k := by rw [← rpF_at p.jam on k, upd_id]
                exact ⟨0, ta, tc, by omega, rfl, by rw [h0]; exact GT, SB2, by rw [h0]; exact OT, X2, LB⟩
              case round =>
                obtain ⟨q, ta2, tc2, hq, rfl, GQ, SB3, OQ, X3, LB3⟩ := hrel
                by_cases hlq : q < 3
                · obtain ⟨hsa, hsd⟩ := sub_act (p := p) (f := rpF p.jam on k) (n := no) (k := k) (q := q) hlt HJK.out (by omega)
                  have i3 : (0:Int) ≤ (q:Int) := by omega
                  have i4 : (q:Int) < 3 := by omega
                  have hdk := fun W (kx : Ext w6 W) ho => do_ok GQ.out (rpK q) k hsa hsd (.slice va no ca) (.slice ta2 no tc2) W (Sl.ext TR6.out kx) ho
                  unfold pV sV at hdk
                  have hG2 : Good p (stF 1 (upd (rpF p.jam on k) k (subU (q + 1))) no) := (hdk wr X3.out OQ.out).1
                  have hq3 : q = 0 ∨ q = 1 ∨ q = 2 := by omega
                  have lk : (#[.int .i64 4, .int .i64 k, .int .i64 3, .int .i64 k, .int .i64 5, .int .i64 k] : Array Value)[q * 2]? = some (.int .i64 (rpK q)) ∧ (#[.int .i64 4, .int .i64 k, .int .i64 3, .int .i64 k, .int .i64 5, .int .i64 k] : Array Value)[q * 2 + 1]? = some (.int .i64 k) := by
                    rcases hq3 with rfl | rfl | rfl <;> exact ⟨rfl, rfl⟩
                  clear hsa hsd hq3
                  have HDK := Lib.hid hdk
                  have HG2 := Lib.hid hG2
                  have LK := Lib.hid lk
                  clear hdk hG2 lk
                  go_upto_region 22 with (fail)
                  go_cut [9] (fun v W => v = .int .i64 0 ∧ ∃ a' c', Hid (Blk W sb #[.int .i64 1, .bool false, .slice a' no c', .int .i64 0] 36) ∧ Hid (OwU W (.slice a' no c') (stF 1 (upd (rpF p.jam on k) k (subU (q + 1))) no)) ∧ Hid (Ext w6 W) ∧ Hid (Blk W lb #[.int .i64 4, .int .i64 k, .int .i64 3, .int .i64 k, .int .i64 5, .int .i64 k] 63))
                  case first =>
                    as_aux_lemma =>
                      have hS : ∀ W, Ext wr W → ((∀ j, W.cell? ⟨pb, j, none⟩ = (#[.slice va no ca, .int .i64 p.warm, .int .i64 p.tail, .int .i64 p.dirt] : Array Value)[j]?) ∧ (∀ j, W.cell? ⟨sb, j, none⟩ = (#[.int .i64 1, .bool false, .slice ta2 no tc2, .int .i64 0] : Array Value)[j]?) ∧ (W.cell? ⟨lb, q * 2, none⟩ = some (.int .i64 (rpK q)) ∧ W.cell? ⟨lb, q * 2 + 1, none⟩ = some (.int .i64 k))) := fun W hx =>
                        ⟨(PB6.out.ext (X3.out.tr hx)).cell, (SB3.out.ext hx).cell, ((LB3.out.ext hx).cell _).trans LK.out.1, ((LB3.out.ext hx).cell _).trans LK.out.2⟩
                      have xd : Ext wr wr.drew := (Below.refl _ wr).drew
                      refine wp_region_K (fun wx => (∀ j, wx.cell? ⟨pb, j, none⟩ = (#[.slice va no ca, .int .i64 p.warm, .int .i64 p.tail, .int .i64 p.dirt] : Array Value)[j]?) ∧ (∀ j, wx.cell? ⟨sb, j, none⟩ = (#[.int .i64 1, .bool false, .slice ta2 no tc2, .int .i64 0] : Array Value)[j]?) ∧ (wx.cell? ⟨lb, q * 2, none⟩ = some (.int .i64 (rpK q)) ∧ wx.cell? ⟨lb, q * 2 + 1, none⟩ = some (.int .i64 k))) 9 (by kernel_rfl) (hS _ xd) (fun hHeld => ?_)
                      generalize wr.drew = wA at *
                      have XC := Lib.hid xd
                      have HS := Lib.hid hS
                      clear xd hS
                      refine wpAnyK_takeL (i := 0) (v := ?_) rfl (by kernel_rfl) (by kernel_rfl) (by kernel_rfl) (by kernel_rfl) (fun _ _ _ h => h) (Or.inl ⟨by rfl, ?_⟩) hHeld ?_
                      rotate_left
                      · intro w hSw; (try dsimp only at hSw); go_simp; (try with_reducible rfl)
                      try simp only [Act.put, List.setIfInBounds_toArray, List.set_cons_zero, List.set_cons_succ]
                      refine wpAnyK_takeL (i := 1) (v := ?_) rfl (by kernel_rfl) (by kernel_rfl) (by kernel_rfl) (by kernel_rfl) (fun _ _ _ h => h) (Or.inl ⟨by rfl, ?_⟩) hHeld ?_
                      rotate_left
                      · intro w hSw; (try dsimp only at hSw); go_simp; (try with_reducible rfl)
                      try simp only [Act.put, List.setIfInBounds_toArray, List.set_cons_zero, List.set_cons_succ]
                      refine wpAnyK_ready (rs := [2, 3]) (by kernel_rfl) (by simp) ?_
                      refine AllReadyK.consL (i := 2) rfl (fun K hK => ?_) ?_
                      · go_simp
                        refine hK.out _ _ (fun _ => HS.out _ XC.out) (fun hHeld2 => ?_)
                        clear hK K
                        try clear hHeld
                        have hHeld := hHeld2 (by decide)
                        clear hHeld2
                        try simp only [Act.put, List.setIfInBounds_toArray, List.set_cons_zero, List.set_cons_succ]
                        refine wpAnyK_ready (rs := [3]) (by kernel_rfl) (by simp) ?_
                        refine AllReadyK.consL (i := 3) rfl (fun K hK => ?_) ?_
                        · go_simp
                          refine hK.out _ _ (fun _ => HS.out _ XC.out) (fun hHeld2 => ?_)
                          clear hK K
                          try clear hHeld
                          have hHeld := hHeld2 (by decide)
                          clear hHeld2
                          try simp only [Act.put, List.setIfInBounds_toArray, List.set_cons_zero, List.set_cons_succ]
                          refine wpAnyK_ready (rs := [4]) (by kernel_rfl) (by simp) ?_
                          refine AllReadyK.consL (i := 4) rfl (fun K hK => ?_) ?_
                          · go_simp
                            refine hK.out _ _ (fun _ => HS.out _ XC.out) (fun hHeld2 => ?_)
                            clear hK K
                            try clear hHeld
                            have hHeld := hHeld2 (by decide)
                            clear hHeld2
                            try simp only [Act.put, List.setIfInBounds_toArray, List.set_cons_zero, List.set_cons_succ]
                            refine wpAnyK_takeL (i := 5) (v := ?_) rfl (by kernel_rfl) (by kernel_rfl) (by kernel_rfl) (by kernel_rfl) (fun _ _ _ h => h) (Or.inl ⟨by rfl, ?_⟩) hHeld ?_
                            rotate_left
                            · intro w hSw; (try dsimp only at hSw); go_simp; (try with_reducible rfl)
                            try simp only [Act.put, List.setIfInBounds_toArray, List.set_cons_zero, List.set_cons_succ]
                            refine wpAnyK_ready (rs := [6]) (by kernel_rfl) (by simp) ?_
                            refine AllReadyK.consL (i := 6) rfl (fun K hK => ?_) ?_
                            · refine step_call (vs := #[.agg #[.slice va no ca, .int .i64 p.warm, .int .i64 p.tail, .int .i64 p.dirt], .agg #[.int .i64 1, .bool false, .slice ta2 no tc2, .int .i64 0], .agg #[.int .i64 (rpK q), .int .i64 k]]) rfl rfl rfl Try.func22 (by kernel_rfl) (by kernel_rfl) (HDK.out _ (X3.out.tr XC.out) (OQ.out.ext XC.out)).2 ?_
                              rintro e wy ⟨vz, rfl, hoz, hx⟩
                              obtain ⟨az, cz, hvz⟩ := hoz.form
                              rw [stF_len] at hvz
                              subst hvz
                              refine ⟨_, rfl, ?_⟩
                              replace XC := Lib.hid (XC.out.tr hx)
                              have OZ := Lib.hid hoz
                              clear hx hoz
                              refine hK.out _ _ (fun _ => HS.out _ XC.out) (fun hHeld2 => ?_)
                              clear hK K
                              try clear hHeld
                              have hHeld := hHeld2 (by decide)
                              clear hHeld2
                              try simp only [Act.put, List.setIfInBounds_toArray, List.set_cons_zero, List.set_cons_succ]
                              refine wpAnyK_takeL (i := 7) (v := ?_) rfl (by kernel_rfl) (by kernel_rfl) (by kernel_rfl) (by kernel_rfl) (fun _ _ _ h => h) (Or.inl ⟨by rfl, ?_⟩) hHeld ?_
                              rotate_left
                              · intro w hSw; (try dsimp only at hSw); go_simp; (try with_reducible rfl)
                              try simp only [Act.put, List.setIfInBounds_toArray, List.set_cons_zero, List.set_cons_succ]
                              refine wpAnyK_ready (rs := [8, 9]) (by kernel_rfl) (by simp) ?_
                              refine AllReadyK.consL (i := 8) rfl (fun K hK => ?_) ?_
                              · go_simp
                                refine hK.out _ _ (fun _ => HS.out _ XC.out) (fun hHeld2 => ?_)
                                clear hK K
                                try clear hHeld
                                have hHeld := hHeld2 (by decide)
                                clear hHeld2
                                try simp only [Act.put, List.setIfInBounds_toArray, List.set_cons_zero, List.set_cons_succ]
                                refine wpAnyK_ready (rs := [9, 10]) (by kernel_rfl) (by simp) ?_
                                refine AllReadyK.consL (i := 9) rfl (fun K hK => ?_) ?_
                                · go_simp
                                  refine hK.out _ _ (fun h => absurd h (by decide)) (fun hHeld2 => ?_)
                                  clear hK K hHeld2
                                  try clear hHeld
                                  try simp only [Act.put, List.setIfInBounds_toArray, List.set_cons_zero, List.set_cons_succ]
                                  refine wpAnyK_ready (rs := [10]) (by kernel_rfl) (by simp) ?_
                                  refine AllReadyK.consL (i := 10) rfl (fun K hK => ?_) ?_
                                  · refine step_storeK (cells := #[.int .i64 1, .bool false, .slice az no cz, .int .i64 0]) rfl rfl (SB3.out.ext XC.out) rfl rfl (by kernel_rfl) rfl (by simp [Value.oneCell']) ?_
                                    intro wy hb ho
                                    have oz := owns_only OZ.out ho (owns_ne' OZ.out (SB3.out.ext XC.out) (by decide))
                                    have xz := (X3.out.tr XC.out).then_only ho (fun b (e : b = sb) => by rw [e]; exact LZ.out)
                                    have lz := (LB3.out.ext XC.out).only ho (fun e => absurd (blk_ty (LB3.out.ext XC.out) (e ▸ (SB3.out.ext XC.out))) (by decide))
                                    clear OZ ho
                                    have OZ := Lib.hid oz
                                    have XZ := Lib.hid xz
                                    have SZ := Lib.hid hb
                                    have LZB := Lib.hid lz
                                    clear oz xz hb lz
                                    refine hK.out _ _ (fun h => absurd h (by decide)) (fun hHeld2 => ?_)
                                    clear hK K hHeld2
                                    try clear hHeld
                                    try simp only [Act.put, List.setIfInBounds_toArray, List.set_cons_zero, List.set_cons_succ]
                                    refine wpAnyK_ready (rs := [11]) (by kernel_rfl) (by simp) ?_
                                    refine AllReadyK.consL (i := 11) rfl (fun K hK => ?_) ?_
                                    · go_simp
                                      refine hK.out _ _ (fun h => absurd h (by decide)) (fun hHeld2 => ?_)
                                      clear hK K hHeld2
                                      try clear hHeld
                                      try simp only [Act.put, List.setIfInBounds_toArray, List.set_cons_zero, List.set_cons_succ]
                                      refine wpAnyK_done (by kernel_rfl) ?_ _
                                      go_wp2
                                      go_meet
                                      case rel => exact ⟨rfl, az, cz, SZ, OZ, XZ, LZB⟩
                                    · exact AllReadyK.nil
                                  · exact AllReadyK.nil
                                refine AllReadyK.consL (i := 10) rfl (fun K hK => ?_) ?_
                                · refine step_storeK (cells := #[.int .i64 1, .bool false, .slice az no cz, .int .i64 0]) rfl rfl (SB3.out.ext XC.out) rfl rfl (by kernel_rfl) rfl (by simp [Value.oneCell']) ?_
                                  intro wy hb ho
                                  have oz := owns_only OZ.out ho (owns_ne' OZ.out (SB3.out.ext XC.out) (by decide))
                                  have xz := (X3.out.tr XC.out).then_only ho (fun b (e : b = sb) => by rw [e]; exact LZ.out)
                                  have lz := (LB3.out.ext XC.out).only ho (fun e => absurd (blk_ty (LB3.out.ext XC.out) (e ▸ (SB3.out.ext XC.out))) (by decide))
                                  clear OZ ho
                                  have OZ := Lib.hid oz
                                  have XZ := Lib.hid xz
                                  have SZ := Lib.hid hb
                                  have LZB := Lib.hid lz
                                  clear oz xz hb lz
                                  refine hK.out _ _ (fun h => absurd h (by decide)) (fun hHeld2 => ?_)
                                  clear hK K hHeld2
                                  try clear hHeld
                                  try simp only [Act.put, List.setIfInBounds_toArray, List.set_cons_zero, List.set_cons_succ]
                                  refine wpAnyK_ready (rs := [9]) (by kernel_rfl) (by simp) ?_
                                  refine AllReadyK.consL (i := 9) rfl (fun K hK => ?_) ?_
                                  · go_simp
                                    refine hK.out _ _ (fun h => absurd h (by decide)) (fun hHeld2 => ?_)
                                    clear hK K hHeld2
                                    try clear hHeld
                                    try simp only [Act.put, List.setIfInBounds_toArray, List.set_cons_zero, List.set_cons_succ]
                                    refine wpAnyK_ready (rs := [11]) (by kernel_rfl) (by simp) ?_
                                    refine AllReadyK.consL (i := 11) rfl (fun K hK => ?_) ?_
                                    · go_simp
                                      refine hK.out _ _ (fun h => absurd h (by decide)) (fun hHeld2 => ?_)
                                      clear hK K hHeld2
                                      try clear hHeld
                                      try simp only [Act.put, List.setIfInBounds_toArray, List.set_cons_zero, List.set_cons_succ]
                                      refine wpAnyK_done (by kernel_rfl) ?_ _
                                      go_wp2
                                      go_meet
                                      case rel => exact ⟨rfl, az, cz, SZ, OZ, XZ, LZB⟩
                                    · exact AllReadyK.nil
                                  · exact AllReadyK.nil
                                · exact AllReadyK.nil
                              refine AllReadyK.consL (i := 9) rfl (fun K hK => ?_) ?_
                              · go_simp
                                refine hK.out _ _ (fun h => absurd h (by decide)) (fun hHeld2 => ?_)
                                clear hK K hHeld2
                                try clear hHeld
                                try simp only [Act.put, List.setIfInBounds_toArray, List.set_cons_zero, List.set_cons_succ]
                                refine wpAnyK_ready (rs := [8]) (by kernel_rfl) (by simp) ?_
                                refine AllReadyK.consL (i := 8) rfl (fun K hK => ?_) ?_
                                · go_simp
                                  refine hK.out _ _ (fun _ => HS.out _ XC.out) (fun hHeld2 => ?_)
                                  clear hK K
                                  try clear hHeld
                                  have hHeld := hHeld2 (by decide)
                                  clear hHeld2
                                  try simp only [Act.put, List.setIfInBounds_toArray, List.set_cons_zero, List.set_cons_succ]
                                  refine wpAnyK_ready (rs := [10]) (by kernel_rfl) (by simp) ?_
                                  refine AllReadyK.consL (i := 10) rfl (fun K hK => ?_) ?_
                                  · refine step_storeK (cells := #[.int .i64 1, .bool false, .slice az no cz, .int .i64 0]) rfl rfl (SB3.out.ext XC.out) rfl rfl (by kernel_rfl) rfl (by simp [Value.oneCell']) ?_
                                    intro wy hb ho
                                    have oz := owns_only OZ.out ho (owns_ne' OZ.out (SB3.out.ext XC.out) (by decide))
                                    have xz := (X3.out.tr XC.out).then_only ho (fun b (e : b = sb) => by rw [e]; exact LZ.out)
                                    have lz := (LB3.out.ext XC.out).only ho (fun e => absurd (blk_ty (LB3.out.ext XC.out) (e ▸ (SB3.out.ext XC.out))) (by decide))
                                    clear OZ ho
                                    have OZ := Lib.hid oz
                                    have XZ := Lib.hid xz
                                    have SZ := Lib.hid hb
                                    have LZB := Lib.hid lz
                                    clear oz xz hb lz
                                    refine hK.out _ _ (fun h => absurd h (by decide)) (fun hHeld2 => ?_)
                                    clear hK K hHeld2
                                    try clear hHeld
                                    try simp only [Act.put, List.setIfInBounds_toArray, List.set_cons_zero, List.set_cons_succ]
                                    refine wpAnyK_ready (rs := [11]) (by kernel_rfl) (by simp) ?_
                                    refine AllReadyK.consL (i := 11) rfl (fun K hK => ?_) ?_
                                    · go_simp
                                      refine hK.out _ _ (fun h => absurd h (by decide)) (fun hHeld2 => ?_)
                                      clear hK K hHeld2
                                      try clear hHeld
                                      try simp only [Act.put, List.setIfInBounds_toArray, List.set_cons_zero, List.set_cons_succ]
                                      refine wpAnyK_done (by kernel_rfl) ?_ _
                                      go_wp2
                                      go_meet
                                      case rel => exact ⟨rfl, az, cz, SZ, OZ, XZ, LZB⟩
                                    · exact AllReadyK.nil
                                  · exact AllReadyK.nil
                                · exact AllReadyK.nil
                              · exact AllReadyK.nil
                            · exact AllReadyK.nil
                          · exact AllReadyK.nil
                        · exact AllReadyK.nil
                      refine AllReadyK.consL (i := 3) rfl (fun K hK => ?_) ?_
                      · go_simp
                        refine hK.out _ _ (fun _ => HS.out _ XC.out) (fun hHeld2 => ?_)
                        clear hK K
                        try clear hHeld
                        have hHeld := hHeld2 (by decide)
                        clear hHeld2
                        try simp only [Act.put, List.setIfInBounds_toArray, List.set_cons_zero, List.set_cons_succ]
                        refine wpAnyK_ready (rs := [2]) (by kernel_rfl) (by simp) ?_
                        refine AllReadyK.consL (i := 2) rfl (fun K hK => ?_) ?_
                        · go_simp
                          refine hK.out _ _ (fun _ => HS.out _ XC.out) (fun hHeld2 => ?_)
                          clear hK K
                          try clear hHeld
                          have hHeld := hHeld2 (by decide)
                          clear hHeld2
                          try simp only [Act.put, List.setIfInBounds_toArray, List.set_cons_zero, List.set_cons_succ]
                          refine wpAnyK_ready (rs := [4]) (by kernel_rfl) (by simp) ?_
                          refine AllReadyK.consL (i := 4) rfl (fun K hK => ?_) ?_
                          · go_simp
                            refine hK.out _ _ (fun _ => HS.out _ XC.out) (fun hHeld2 => ?_)
                            clear hK K
                            try clear hHeld
                            have hHeld := hHeld2 (by decide)
                            clear hHeld2
                            try simp only [Act.put, List.setIfInBounds_toArray, List.set_cons_zero, List.set_cons_succ]
                            refine wpAnyK_takeL (i := 5) (v := ?_) rfl (by kernel_rfl) (by kernel_rfl) (by kernel_rfl) (by kernel_rfl) (fun _ _ _ h => h) (Or.inl ⟨by rfl, ?_⟩) hHeld ?_
                            rotate_left
                            · intro w hSw; (try dsimp only at hSw); go_simp; (try with_reducible rfl)
                            try simp only [Act.put, List.setIfInBounds_toArray, List.set_cons_zero, List.set_cons_succ]
                            refine wpAnyK_ready (rs := [6]) (by kernel_rfl) (by simp) ?_
                            refine AllReadyK.consL (i := 6) rfl (fun K hK => ?_) ?_
                            · refine step_call (vs := #[.agg #[.slice va no ca, .int .i64 p.warm, .int .i64 p.tail, .int .i64 p.dirt], .agg #[.int .i64 1, .bool false, .slice ta2 no tc2, .int .i64 0], .agg #[.int .i64 (rpK q), .int .i64 k]]) rfl rfl rfl Try.func22 (by kernel_rfl) (by kernel_rfl) (HDK.out _ (X3.out.tr XC.out) (OQ.out.ext XC.out)).2 ?_
                              rintro e wy ⟨vz, rfl, hoz, hx⟩
                              obtain ⟨az, cz, hvz⟩ := hoz.form
                              rw [stF_len] at hvz
                              subst hvz
                              refine ⟨_, rfl, ?_⟩
                              replace XC := Lib.hid (XC.out.tr hx)
                              have OZ := Lib.hid hoz
                              clear hx hoz
                              refine hK.out _ _ (fun _ => HS.out _ XC.out) (fun hHeld2 => ?_)
                              clear hK K
                              try clear hHeld
                              have hHeld := hHeld2 (by decide)
                              clear hHeld2
                              try simp only [Act.put, List.setIfInBounds_toArray, List.set_cons_zero, List.set_cons_succ]
                              refine wpAnyK_takeL (i := 7) (v := ?_) rfl (by kernel_rfl) (by kernel_rfl) (by kernel_rfl) (by kernel_rfl) (fun _ _ _ h => h) (Or.inl ⟨by rfl, ?_⟩) hHeld ?_
                              rotate_left
                              · intro w hSw; (try dsimp only at hSw); go_simp; (try with_reducible rfl)
                              try simp only [Act.put, List.setIfInBounds_toArray, List.set_cons_zero, List.set_cons_succ]
                              refine wpAnyK_ready (rs := [8, 9]) (by kernel_rfl) (by simp) ?_
                              refine AllReadyK.consL (i := 8) rfl (fun K hK => ?_) ?_
                              · go_simp
                                refine hK.out _ _ (fun _ => HS.out _ XC.out) (fun hHeld2 => ?_)
                                clear hK K
                                try clear hHeld
                                have hHeld := hHeld2 (by decide)
                                clear hHeld2
                                try simp only [Act.put, List.setIfInBounds_toArray, List.set_cons_zero, List.set_cons_succ]
                                refine wpAnyK_ready (rs := [9, 10]) (by kernel_rfl) (by simp) ?_
                                refine AllReadyK.consL (i := 9) rfl (fun K hK => ?_) ?_
                                · go_simp
                                  refine hK.out _ _ (fun h => absurd h (by decide)) (fun hHeld2 => ?_)
                                  clear hK K hHeld2
                                  try clear hHeld
                                  try simp only [Act.put, List.setIfInBounds_toArray, List.set_cons_zero, List.set_cons_succ]
                                  refine wpAnyK_ready (rs := [10]) (by kernel_rfl) (by simp) ?_
                                  refine AllReadyK.consL (i := 10) rfl (fun K hK => ?_) ?_
                                  · refine step_storeK (cells := #[.int .i64 1, .bool false, .slice az no cz, .int .i64 0]) rfl rfl (SB3.out.ext XC.out) rfl rfl (by kernel_rfl) rfl (by simp [Value.oneCell']) ?_
                                    intro wy hb ho
                                    have oz := owns_only OZ.out ho (owns_ne' OZ.out (SB3.out.ext XC.out) (by decide))
                                    have xz := (X3.out.tr XC.out).then_only ho (fun b (e : b = sb) => by rw [e]; exact LZ.out)
                                    have lz := (LB3.out.ext XC.out).only ho (fun e => absurd (blk_ty (LB3.out.ext XC.out) (e ▸ (SB3.out.ext XC.out))) (by decide))
                                    clear OZ ho
                                    have OZ := Lib.hid oz
                                    have XZ := Lib.hid xz
                                    have SZ := Lib.hid hb
                                    have LZB := Lib.hid lz
                                    clear oz xz hb lz
                                    refine hK.out _ _ (fun h => absurd h (by decide)) (fun hHeld2 => ?_)
                                    clear hK K hHeld2
                                    try clear hHeld
                                    try simp only [Act.put, List.setIfInBounds_toArray, List.set_cons_zero, List.set_cons_succ]
                                    refine wpAnyK_ready (rs := [11]) (by kernel_rfl) (by simp) ?_
                                    refine AllReadyK.consL (i := 11) rfl (fun K hK => ?_) ?_
                                    · go_simp
                                      refine hK.out _ _ (fun h => absurd h (by decide)) (fun hHeld2 => ?_)
                                      clear hK K hHeld2
                                      try clear hHeld
                                      try simp only [Act.put, List.setIfInBounds_toArray, List.set_cons_zero, List.set_cons_succ]
                                      refine wpAnyK_done (by kernel_rfl) ?_ _
                                      go_wp2
                                      go_meet
                                      case rel => exact ⟨rfl, az, cz, SZ, OZ, XZ, LZB⟩
                                    · exact AllReadyK.nil
                                  · exact AllReadyK.nil
                                refine AllReadyK.consL (i := 10) rfl (fun K hK => ?_) ?_
                                · refine step_storeK (cells := #[.int .i64 1, .bool false, .slice az no cz, .int .i64 0]) rfl rfl (SB3.out.ext XC.out) rfl rfl (by kernel_rfl) rfl (by simp [Value.oneCell']) ?_
                                  intro wy hb ho
                                  have oz := owns_only OZ.out ho (owns_ne' OZ.out (SB3.out.ext XC.out) (by decide))
                                  have xz := (X3.out.tr XC.out).then_only ho (fun b (e : b = sb) => by rw [e]; exact LZ.out)
                                  have lz := (LB3.out.ext XC.out).only ho (fun e => absurd (blk_ty (LB3.out.ext XC.out) (e ▸ (SB3.out.ext XC.out))) (by decide))
                                  clear OZ ho
                                  have OZ := Lib.hid oz
                                  have XZ := Lib.hid xz
                                  have SZ := Lib.hid hb
                                  have LZB := Lib.hid lz
                                  clear oz xz hb lz
                                  refine hK.out _ _ (fun h => absurd h (by decide)) (fun hHeld2 => ?_)
                                  clear hK K hHeld2
                                  try clear hHeld
                                  try simp only [Act.put, List.setIfInBounds_toArray, List.set_cons_zero, List.set_cons_succ]
                                  refine wpAnyK_ready (rs := [9]) (by kernel_rfl) (by simp) ?_
                                  refine AllReadyK.consL (i := 9) rfl (fun K hK => ?_) ?_
                                  · go_simp
                                    refine hK.out _ _ (fun h => absurd h (by decide)) (fun hHeld2 => ?_)
                                    clear hK K hHeld2
                                    try clear hHeld
                                    try simp only [Act.put, List.setIfInBounds_toArray, List.set_cons_zero, List.set_cons_succ]
                                    refine wpAnyK_ready (rs := [11]) (by kernel_rfl) (by simp) ?_
                                    refine AllReadyK.consL (i := 11) rfl (fun K hK => ?_) ?_
                                    · go_simp
                                      refine hK.out _ _ (fun h => absurd h (by decide)) (fun hHeld2 => ?_)
                                      clear hK K hHeld2
                                      try clear hHeld
                                      try simp only [Act.put, List.setIfInBounds_toArray, List.set_cons_zero, List.set_cons_succ]
                                      refine wpAnyK_done (by kernel_rfl) ?_ _
                                      go_wp2
                                      go_meet
                                      case rel => exact ⟨rfl, az, cz, SZ, OZ, XZ, LZB⟩
                                    · exact AllReadyK.nil
                                  · exact AllReadyK.nil
                                · exact AllReadyK.nil
                              refine AllReadyK.consL (i := 9) rfl (fun K hK => ?_) ?_
                              · go_simp
                                refine hK.out _ _ (fun h => absurd h (by decide)) (fun hHeld2 => ?_)
                                clear hK K hHeld2
                                try clear hHeld
                                try simp only [Act.put, List.setIfInBounds_toArray, List.set_cons_zero, List.set_cons_succ]
                                refine wpAnyK_ready (rs := [8]) (by kernel_rfl) (by simp) ?_
                                refine AllReadyK.consL (i := 8) rfl (fun K hK => ?_) ?_
                                · go_simp
                                  refine hK.out _ _ (fun _ => HS.out _ XC.out) (fun hHeld2 => ?_)
                                  clear hK K
                                  try clear hHeld
                                  have hHeld := hHeld2 (by decide)
                                  clear hHeld2
                                  try simp only [Act.put, List.setIfInBounds_toArray, List.set_cons_zero, List.set_cons_succ]
                                  refine wpAnyK_ready (rs := [10]) (by kernel_rfl) (by simp) ?_
                                  refine AllReadyK.consL (i := 10) rfl (fun K hK => ?_) ?_
                                  · refine step_storeK (cells := #[.int .i64 1, .bool false, .slice az no cz, .int .i64 0]) rfl rfl (SB3.out.ext XC.out) rfl rfl (by kernel_rfl) rfl (by simp [Value.oneCell']) ?_
                                    intro wy hb ho
                                    have oz := owns_only OZ.out ho (owns_ne' OZ.out (SB3.out.ext XC.out) (by decide))
                                    have xz := (X3.out.tr XC.out).then_only ho (fun b (e : b = sb) => by rw [e]; exact LZ.out)
                                    have lz := (LB3.out.ext XC.out).only ho (fun e => absurd (blk_ty (LB3.out.ext XC.out) (e ▸ (SB3.out.ext XC.out))) (by decide))
                                    clear OZ ho
                                    have OZ := Lib.hid oz
                                    have XZ := Lib.hid xz
                                    have SZ := Lib.hid hb
                                    have LZB := Lib.hid lz
                                    clear oz xz hb lz
                                    refine hK.out _ _ (fun h => absurd h (by decide)) (fun hHeld2 => ?_)
                                    clear hK K hHeld2
                                    try clear hHeld
                                    try simp only [Act.put, List.setIfInBounds_toArray, List.set_cons_zero, List.set_cons_succ]
                                    refine wpAnyK_ready (rs := [11]) (by kernel_rfl) (by simp) ?_
                                    refine AllReadyK.consL (i := 11) rfl (fun K hK => ?_) ?_
                                    · go_simp
                                      refine hK.out _ _ (fun h => absurd h (by decide)) (fun hHeld2 => ?_)
                                      clear hK K hHeld2
                                      try clear hHeld
                                      try simp only [Act.put, List.setIfInBounds_toArray, List.set_cons_zero, List.set_cons_succ]
                                      refine wpAnyK_done (by kernel_rfl) ?_ _
                                      go_wp2
                                      go_meet
                                      case rel => exact ⟨rfl, az, cz, SZ, OZ, XZ, LZB⟩
                                    · exact AllReadyK.nil
                                  · exact AllReadyK.nil
                                · exact AllReadyK.nil
                              · exact AllReadyK.nil
                            · exact AllReadyK.nil
                          · exact AllReadyK.nil
                        · exact AllReadyK.nil
                      · exact AllReadyK.nil
                  case rest =>
                  obtain ⟨rfl, a', c', SB4, OQ4, X4, LB4⟩ := hcut
                  go_wp2
                  go_roundw
                  case rel => exact ⟨q + 1, a', c', by omega, by go_num, HG2, SB4, OQ4, X4, LB4⟩
                  case measure => first | (simp [intOf]; done) | (simp [intOf]; omega)
                · have i4 : decide ((q:Int) < 3) = false := decide_eq_false (by omega)
                  obtain rfl : q = 3 := by omega
                  have hnx := rpF_next p.jam on k HJK.out 3 (by rw [HOK.out]; rfl)
                  have gq := GQ.out
                  have oq := OQ.out
                  rw [hnx] at gq oq
                  have do1 := X3.out.cellSome (X6.out.cellSome DO0.out)
                  have hae : AN (k + 1) = true := by rw [HA.out]; simp
                  have GQ2 := Lib.hid gq
                  have OQ2 := Lib.hid oq
                  have HAE := Lib.hid hae
                  clear gq oq hae
                  clear hnx
                  cases ak
                  all_goals
                    go_wp2
                    go_roundw
                    case rel => exact ⟨k + 1, ta2, tc2, by omega, by go_num, by rw [HAE.out] <;> rfl, GQ2, SB3, OQ2, X3⟩
                    case measure => first | (simp [intOf]; done) | (simp [intOf]; omega)
          · clear do2
            go_upto_region 14 with (fail)
            go_cut [15] (fun v W => v = .int .i64 80 ∧ Hid (Ext wl W))
            case first =>
              as_aux_lemma =>
                have hS : ∀ W, Ext wl W → ((∀ j, W.cell? ⟨pb, j, none⟩ = (#[.slice va no ca, .int .i64 p.warm, .int .i64 p.tail, .int .i64 p.dirt] : Array Value)[j]?) ∧ (∀ j, W.cell? ⟨sb, j, none⟩ = (#[.int .i64 1, .bool false, .slice ta no tc, .int .i64 0] : Array Value)[j]?) ∧ (∀ j, W.cell? ⟨lb, j, none⟩ = (#[.int .i64 4, .int .i64 k, .int .i64 3, .int .i64 k, .int .i64 5, .int .i64 k] : Array Value)[j]?)) := fun W hx =>
                  ⟨(PB6.out.ext (X2.out.tr hx)).cell, (SB2.out.ext hx).cell, (LB.out.ext hx).cell⟩
                have hae : actErr p (stF 1 (rpF p.jam on k) no) 4 k = 80 := by
                  unfold actErr
                  rw [if_neg (by omega), if_neg (by rw [stF_len]; rintro (h | h | ⟨h, _⟩); omega; omega; cases h)]
                  have : allowD p (stF 1 (rpF p.jam on k) no) 4 (k:Int).toNat = false := by
                    unfold allowD
                    rw [Int.toNat_natCast, HJK.out]
                    simp
                  rw [this]; rfl
                have hdn := fun W (kx : Ext wl W) => do_no GT.out 4 k (by omega) hae (.slice va no ca) (.slice ta no tc) W (Sl.ext TR6.out (X2.out.tr kx)) (OT.out.ext kx)
                unfold pV at hdn
                unfold sV at hdn
                have xd : Ext wl wl.drew := (Below.refl _ wl).drew
                clear dj c1 hae
                refine wp_region_K (fun wx => (∀ j, wx.cell? ⟨pb, j, none⟩ = (#[.slice va no ca, .int .i64 p.warm, .int .i64 p.tail, .int .i64 p.dirt] : Array Value)[j]?) ∧ (∀ j, wx.cell? ⟨sb, j, none⟩ = (#[.int .i64 1, .bool false, .slice ta no tc, .int .i64 0] : Array Value)[j]?) ∧ (∀ j, wx.cell? ⟨lb, j, none⟩ = (#[.int .i64 4, .int .i64 k, .int .i64 3, .int .i64 k, .int .i64 5, .int .i64 k] : Array Value)[j]?)) 10 (by kernel_rfl) (hS _ xd) (fun hHeld => ?_)
                generalize wl.drew = wA at *
                have XC := Lib.hid xd
                have HS := Lib.hid hS
                have HDN := Lib.hid hdn
                clear xd hS hdn
                refine wpAnyK_takeL (i := 0) (v := ?_) rfl (by kernel_rfl) (by kernel_rfl) (by kernel_rfl) (by kernel_rfl) (fun _ _ _ h => h) (Or.inl ⟨by rfl, ?_⟩) hHeld ?_
                rotate_left
                · intro w hSw; (try dsimp only at hSw); go_simp; (try with_reducible rfl)
                try simp only [Act.put, List.setIfInBounds_toArray, List.set_cons_zero, List.set_cons_succ]
                refine wpAnyK_takeL (i := 1) (v := ?_) rfl (by kernel_rfl) (by kernel_rfl) (by kernel_rfl) (by kernel_rfl) (fun _ _ _ h => h) (Or.inl ⟨by rfl, ?_⟩) hHeld ?_
                rotate_left
                · intro w hSw; (try dsimp only at hSw); go_simp; (try with_reducible rfl)
                try simp only [Act.put, List.setIfInBounds_toArray, List.set_cons_zero, List.set_cons_succ]
                refine wpAnyK_takeL (i := 2) (v := ?_) rfl (by kernel_rfl) (by kernel_rfl) (by kernel_rfl) (by kernel_rfl) (fun _ _ _ h => h) (Or.inl ⟨by rfl, ?_⟩) hHeld ?_
                rotate_left
                · intro w hSw; (try dsimp only at hSw); go_simp; (try with_reducible rfl)
                try simp only [Act.put, List.setIfInBounds_toArray, List.set_cons_zero, List.set_cons_succ]
                refine wpAnyK_takeL (i := 3) (v := ?_) rfl (by kernel_rfl) (by kernel_rfl) (by kernel_rfl) (by kernel_rfl) (fun _ _ _ h => h) (Or.inl ⟨by rfl, ?_⟩) hHeld ?_
                rotate_left
                · intro w hSw; (try dsimp only at hSw); go_simp; (try with_reducible rfl)
                try simp only [Act.put, List.setIfInBounds_toArray, List.set_cons_zero, List.set_cons_succ]
                refine wpAnyK_takeL (i := 4) (v := ?_) rfl (by kernel_rfl) (by kernel_rfl) (by kernel_rfl) (by kernel_rfl) (fun _ _ _ h => h) (Or.inl ⟨by rfl, ?_⟩) hHeld ?_
                rotate_left
                · intro w hSw; (try dsimp only at hSw); go_simp; (try with_reducible rfl)
                try simp only [Act.put, List.setIfInBounds_toArray, List.set_cons_zero, List.set_cons_succ]
                refine wpAnyK_ready (rs := [5, 9]) (by kernel_rfl) (by simp) ?_
                refine AllReadyK.consL (i := 5) rfl (fun K hK => ?_) ?_
                · refine step_call (vs := #[.agg #[.slice va no ca, .int .i64 p.warm, .int .i64 p.tail, .int .i64 p.dirt], .agg #[.int .i64 1, .bool false, .slice ta no tc, .int .i64 0], .agg #[.int .i64 4, .int .i64 k]]) rfl rfl rfl Try.func22 (by kernel_rfl) (by kernel_rfl) (HDN.out _ XC.out) ?_
                  rintro e wy ⟨tz, az, cz, rfl, hx⟩
                  refine ⟨_, rfl, ?_⟩
                  try (replace A9 := Lib.hid (A9.out.ext hx))
                  replace XC := Lib.hid (XC.out.tr hx)
                  clear hx
                  refine hK.out _ _ (fun _ => HS.out _ XC.out) (fun hHeld2 => ?_)
                  clear hK K
                  try clear hHeld
                  have hHeld := hHeld2 (by decide)
                  clear hHeld2
                  try simp only [Act.put, List.setIfInBounds_toArray, List.set_cons_zero, List.set_cons_succ]
                  refine wpAnyK_takeL (i := 6) (v := ?_) rfl (by kernel_rfl) (by kernel_rfl) (by kernel_rfl) (by kernel_rfl) (fun _ _ _ h => h) (Or.inl ⟨by rfl, ?_⟩) hHeld ?_
                  rotate_left
                  · intro w hSw; (try dsimp only at hSw); go_simp; (try with_reducible rfl)
                  try simp only [Act.put, List.setIfInBounds_toArray, List.set_cons_zero, List.set_cons_succ]
                  refine wpAnyK_takeL (i := 7) (v := ?_) rfl (by kernel_rfl) (by kernel_rfl) (by kernel_rfl) (by kernel_rfl) (fun _ _ _ h => h) (Or.inl ⟨by rfl, ?_⟩) hHeld ?_
                  rotate_left
                  · intro w hSw; (try dsimp only at hSw); go_simp; (try with_reducible rfl)
                  try simp only [Act.put, List.setIfInBounds_toArray, List.set_cons_zero, List.set_cons_succ]
                  refine wpAnyK_ready (rs := [8, 9]) (by kernel_rfl) (by simp) ?_
                  refine AllReadyK.consL (i := 8) rfl (fun K hK => ?_) ?_
                  · go_simp
                    refine hK.out _ _ (fun _ => HS.out _ XC.out) (fun hHeld2 => ?_)
                    clear hK K
                    try clear hHeld
                    have hHeld := hHeld2 (by decide)
                    clear hHeld2
                    try simp only [Act.put, List.setIfInBounds_toArray, List.set_cons_zero, List.set_cons_succ]
                    refine wpAnyK_ready (rs := [9]) (by kernel_rfl) (by simp) ?_
                    refine AllReadyK.consL (i := 9) rfl (fun K hK => ?_) ?_
                    · refine step_allocA (t := 36) rfl rfl Try.zeroValue36 ?_
                      intro b9 wy hb hx hl
                      have l9 : wl.heap.size ≤ b9 := Nat.le_trans XC.out.size hl
                      have A9 := Lib.hid hb
                      replace XC := Lib.hid (XC.out.tr hx)
                      clear hb hx hl
                      refine hK.out _ _ (fun _ => HS.out _ XC.out) (fun hHeld2 => ?_)
                      clear hK K
                      try clear hHeld
                      have hHeld := hHeld2 (by decide)
                      clear hHeld2
                      try simp only [Act.put, List.setIfInBounds_toArray, List.set_cons_zero, List.set_cons_succ]
                      refine wpAnyK_ready (rs := [10]) (by kernel_rfl) (by simp) ?_
                      refine AllReadyK.consL (i := 10) rfl (fun K hK => ?_) ?_
                      · refine step_storeK (cells := #[.int .i64 tz.drive, .bool tz.folder, .slice az tz.units.length cz, .int .i64 tz.fresh]) rfl rfl A9.out rfl rfl (by kernel_rfl) rfl (by simp [Value.oneCell']) ?_
                        intro wy hb ho
                        have xc := XC.out.then_only ho (fun b (e : b = b9) => by rw [e]; exact l9)
                        clear XC A9 ho hb
                        have XC := Lib.hid xc
                        clear xc
                        refine hK.out _ _ (fun h => absurd h (by decide)) (fun hHeld2 => ?_)
                        clear hK K hHeld2
                        try clear hHeld
                        try simp only [Act.put, List.setIfInBounds_toArray, List.set_cons_zero, List.set_cons_succ]
                        refine wpAnyK_ready (rs := [11]) (by kernel_rfl) (by simp) ?_
                        refine AllReadyK.consL (i := 11) rfl (fun K hK => ?_) ?_
                        · go_simp
                          refine hK.out _ _ (fun h => absurd h (by decide)) (fun hHeld2 => ?_)
                          clear hK K hHeld2
                          try clear hHeld
                          try simp only [Act.put, List.setIfInBounds_toArray, List.set_cons_zero, List.set_cons_succ]
                          refine wpAnyK_done (by kernel_rfl) ?_ _
                          go_wp2
                          go_meet
                          case rel => exact ⟨rfl, XC⟩
                        · exact AllReadyK.nil
                      · exact AllReadyK.nil
                    · exact AllReadyK.nil
                  refine AllReadyK.consL (i := 9) rfl (fun K hK => ?_) ?_
                  · refine step_allocA (t := 36) rfl rfl Try.zeroValue36 ?_
                    intro b9 wy hb hx hl
                    have l9 : wl.heap.size ≤ b9 := Nat.le_trans XC.out.size hl
                    have A9 := Lib.hid hb
                    replace XC := Lib.hid (XC.out.tr hx)
                    clear hb hx hl
                    refine hK.out _ _ (fun _ => HS.out _ XC.out) (fun hHeld2 => ?_)
                    clear hK K
                    try clear hHeld
                    have hHeld := hHeld2 (by decide)
                    clear hHeld2
                    try simp only [Act.put, List.setIfInBounds_toArray, List.set_cons_zero, List.set_cons_succ]
                    refine wpAnyK_ready (rs := [8, 10]) (by kernel_rfl) (by simp) ?_
                    refine AllReadyK.consL (i := 8) rfl (fun K hK => ?_) ?_
                    · go_simp
                      refine hK.out _ _ (fun _ => HS.out _ XC.out) (fun hHeld2 => ?_)
                      clear hK K
                      try clear hHeld
                      have hHeld := hHeld2 (by decide)
                      clear hHeld2
                      try simp only [Act.put, List.setIfInBounds_toArray, List.set_cons_zero, List.set_cons_succ]
                      refine wpAnyK_ready (rs := [10]) (by kernel_rfl) (by simp) ?_
                      refine AllReadyK.consL (i := 10) rfl (fun K hK => ?_) ?_
                      · refine step_storeK (cells := #[.int .i64 tz.drive, .bool tz.folder, .slice az tz.units.length cz, .int .i64 tz.fresh]) rfl rfl A9.out rfl rfl (by kernel_rfl) rfl (by simp [Value.oneCell']) ?_
                        intro wy hb ho
                        have xc := XC.out.then_only ho (fun b (e : b = b9) => by rw [e]; exact l9)
                        clear XC A9 ho hb
                        have XC := Lib.hid xc
                        clear xc
                        refine hK.out _ _ (fun h => absurd h (by decide)) (fun hHeld2 => ?_)
                        clear hK K hHeld2
                        try clear hHeld
                        try simp only [Act.put, List.setIfInBounds_toArray, List.set_cons_zero, List.set_cons_succ]
                        refine wpAnyK_ready (rs := [11]) (by kernel_rfl) (by simp) ?_
                        refine AllReadyK.consL (i := 11) rfl (fun K hK => ?_) ?_
                        · go_simp
                          refine hK.out _ _ (fun h => absurd h (by decide)) (fun hHeld2 => ?_)
                          clear hK K hHeld2
                          try clear hHeld
                          try simp only [Act.put, List.setIfInBounds_toArray, List.set_cons_zero, List.set_cons_succ]
                          refine wpAnyK_done (by kernel_rfl) ?_ _
                          go_wp2
                          go_meet
                          case rel => exact ⟨rfl, XC⟩
                        · exact AllReadyK.nil
                      · exact AllReadyK.nil
                    refine AllReadyK.consL (i := 10) rfl (fun K hK => ?_) ?_
                    · refine step_storeK (cells := #[.int .i64 tz.drive, .bool tz.folder, .slice az tz.units.length cz, .int .i64 tz.fresh]) rfl rfl A9.out rfl rfl (by kernel_rfl) rfl (by simp [Value.oneCell']) ?_
                      intro wy hb ho
                      have xc := XC.out.then_only ho (fun b (e : b = b9) => by rw [e]; exact l9)
                      clear XC A9 ho hb
                      have XC := Lib.hid xc
                      clear xc
                      refine hK.out _ _ (fun h => absurd h (by decide)) (fun hHeld2 => ?_)
                      clear hK K hHeld2
                      try clear hHeld
                      try simp only [Act.put, List.setIfInBounds_toArray, List.set_cons_zero, List.set_cons_succ]
                      refine wpAnyK_ready (rs := [8]) (by kernel_rfl) (by simp) ?_
                      refine AllReadyK.consL (i := 8) rfl (fun K hK => ?_) ?_
                      · go_simp
                        refine hK.out _ _ (fun _ => HS.out _ XC.out) (fun hHeld2 => ?_)
                        clear hK K
                        try clear hHeld
                        have hHeld := hHeld2 (by decide)
                        clear hHeld2
                        try simp only [Act.put, List.setIfInBounds_toArray, List.set_cons_zero, List.set_cons_succ]
                        refine wpAnyK_ready (rs := [11]) (by kernel_rfl) (by simp) ?_
                        refine AllReadyK.consL (i := 11) rfl (fun K hK => ?_) ?_
                        · go_simp
                          refine hK.out _ _ (fun h => absurd h (by decide)) (fun hHeld2 => ?_)
                          clear hK K hHeld2
                          try clear hHeld
                          try simp only [Act.put, List.setIfInBounds_toArray, List.set_cons_zero, List.set_cons_succ]
                          refine wpAnyK_done (by kernel_rfl) ?_ _
                          go_wp2
                          go_meet
                          case rel => exact ⟨rfl, XC⟩
                        · exact AllReadyK.nil
                      · exact AllReadyK.nil
                    · exact AllReadyK.nil
                  · exact AllReadyK.nil
                refine AllReadyK.consL (i := 9) rfl (fun K hK => ?_) ?_
                · refine step_allocA (t := 36) rfl rfl Try.zeroValue36 ?_
                  intro b9 wy hb hx hl
                  have l9 : wl.heap.size ≤ b9 := Nat.le_trans XC.out.size hl
                  have A9 := Lib.hid hb
                  replace XC := Lib.hid (XC.out.tr hx)
                  clear hb hx hl
                  refine hK.out _ _ (fun _ => HS.out _ XC.out) (fun hHeld2 => ?_)
                  clear hK K
                  try clear hHeld
                  have hHeld := hHeld2 (by decide)
                  clear hHeld2
                  try simp only [Act.put, List.setIfInBounds_toArray, List.set_cons_zero, List.set_cons_succ]
                  refine wpAnyK_ready (rs := [5]) (by kernel_rfl) (by simp) ?_
                  refine AllReadyK.consL (i := 5) rfl (fun K hK => ?_) ?_
                  · refine step_call (vs := #[.agg #[.slice va no ca, .int .i64 p.warm, .int .i64 p.tail, .int .i64 p.dirt], .agg #[.int .i64 1, .bool false, .slice ta no tc, .int .i64 0], .agg #[.int .i64 4, .int .i64 k]]) rfl rfl rfl Try.func22 (by kernel_rfl) (by kernel_rfl) (HDN.out _ XC.out) ?_
                    rintro e wy ⟨tz, az, cz, rfl, hx⟩
                    refine ⟨_, rfl, ?_⟩
                    try (replace A9 := Lib.hid (A9.out.ext hx))
                    replace XC := Lib.hid (XC.out.tr hx)
                    clear hx
                    refine hK.out _ _ (fun _ => HS.out _ XC.out) (fun hHeld2 => ?_)
                    clear hK K
                    try clear hHeld
                    have hHeld := hHeld2 (by decide)
                    clear hHeld2
                    try simp only [Act.put, List.setIfInBounds_toArray, List.set_cons_zero, List.set_cons_succ]
                    refine wpAnyK_takeL (i := 6) (v := ?_) rfl (by kernel_rfl) (by kernel_rfl) (by kernel_rfl) (by kernel_rfl) (fun _ _ _ h => h) (Or.inl ⟨by rfl, ?_⟩) hHeld ?_
                    rotate_left
                    · intro w hSw; (try dsimp only at hSw); go_simp; (try with_reducible rfl)
                    try simp only [Act.put, List.setIfInBounds_toArray, List.set_cons_zero, List.set_cons_succ]
                    refine wpAnyK_takeL (i := 7) (v := ?_) rfl (by kernel_rfl) (by kernel_rfl) (by kernel_rfl) (by kernel_rfl) (fun _ _ _ h => h) (Or.inl ⟨by rfl, ?_⟩) hHeld ?_
                    rotate_left
                    · intro w hSw; (try dsimp only at hSw); go_simp; (try with_reducible rfl)
                    try simp only [Act.put, List.setIfInBounds_toArray, List.set_cons_zero, List.set_cons_succ]
                    refine wpAnyK_ready (rs := [8, 10]) (by kernel_rfl) (by simp) ?_
                    refine AllReadyK.consL (i := 8) rfl (fun K hK => ?_) ?_
                    · go_simp
                      refine hK.out _ _ (fun _ => HS.out _ XC.out) (fun hHeld2 => ?_)
                      clear hK K
                      try clear hHeld
                      have hHeld := hHeld2 (by decide)
                      clear hHeld2
                      try simp only [Act.put, List.setIfInBounds_toArray, List.set_cons_zero, List.set_cons_succ]
                      refine wpAnyK_ready (rs := [10]) (by kernel_rfl) (by simp) ?_
                      refine AllReadyK.consL (i := 10) rfl (fun K hK => ?_) ?_
                      · refine step_storeK (cells := #[.int .i64 tz.drive, .bool tz.folder, .slice az tz.units.length cz, .int .i64 tz.fresh]) rfl rfl A9.out rfl rfl (by kernel_rfl) rfl (by simp [Value.oneCell']) ?_
                        intro wy hb ho
                        have xc := XC.out.then_only ho (fun b (e : b = b9) => by rw [e]; exact l9)
                        clear XC A9 ho hb
                        have XC := Lib.hid xc
                        clear xc
                        refine hK.out _ _ (fun h => absurd h (by decide)) (fun hHeld2 => ?_)
                        clear hK K hHeld2
                        try clear hHeld
                        try simp only [Act.put, List.setIfInBounds_toArray, List.set_cons_zero, List.set_cons_succ]
                        refine wpAnyK_ready (rs := [11]) (by kernel_rfl) (by simp) ?_
                        refine AllReadyK.consL (i := 11) rfl (fun K hK => ?_) ?_
                        · go_simp
                          refine hK.out _ _ (fun h => absurd h (by decide)) (fun hHeld2 => ?_)
                          clear hK K hHeld2
                          try clear hHeld
                          try simp only [Act.put, List.setIfInBounds_toArray, List.set_cons_zero, List.set_cons_succ]
                          refine wpAnyK_done (by kernel_rfl) ?_ _
                          go_wp2
                          go_meet
                          case rel => exact ⟨rfl, XC⟩
                        · exact AllReadyK.nil
                      · exact AllReadyK.nil
                    refine AllReadyK.consL (i := 10) rfl (fun K hK => ?_) ?_
                    · refine step_storeK (cells := #[.int .i64 tz.drive, .bool tz.folder, .slice az tz.units.length cz, .int .i64 tz.fresh]) rfl rfl A9.out rfl rfl (by kernel_rfl) rfl (by simp [Value.oneCell']) ?_
                      intro wy hb ho
                      have xc := XC.out.then_only ho (fun b (e : b = b9) => by rw [e]; exact l9)
                      clear XC A9 ho hb
                      have XC := Lib.hid xc
                      clear xc
                      refine hK.out _ _ (fun h => absurd h (by decide)) (fun hHeld2 => ?_)
                      clear hK K hHeld2
                      try clear hHeld
                      try simp only [Act.put, List.setIfInBounds_toArray, List.set_cons_zero, List.set_cons_succ]
                      refine wpAnyK_ready (rs := [8]) (by kernel_rfl) (by simp) ?_
                      refine AllReadyK.consL (i := 8) rfl (fun K hK => ?_) ?_
                      · go_simp
                        refine hK.out _ _ (fun _ => HS.out _ XC.out) (fun hHeld2 => ?_)
                        clear hK K
                        try clear hHeld
                        have hHeld := hHeld2 (by decide)
                        clear hHeld2
                        try simp only [Act.put, List.setIfInBounds_toArray, List.set_cons_zero, List.set_cons_succ]
                        refine wpAnyK_ready (rs := [11]) (by kernel_rfl) (by simp) ?_
                        refine AllReadyK.consL (i := 11) rfl (fun K hK => ?_) ?_
                        · go_simp
                          refine hK.out _ _ (fun h => absurd h (by decide)) (fun hHeld2 => ?_)
                          clear hK K hHeld2
                          try clear hHeld
                          try simp only [Act.put, List.setIfInBounds_toArray, List.set_cons_zero, List.set_cons_succ]
                          refine wpAnyK_done (by kernel_rfl) ?_ _
                          go_wp2
                          go_meet
                          case rel => exact ⟨rfl, XC⟩
                        · exact AllReadyK.nil
                      · exact AllReadyK.nil
                    · exact AllReadyK.nil
                  · exact AllReadyK.nil
                · exact AllReadyK.nil
            case rest =>
            obtain ⟨rfl, X3⟩ := hcut
            have hrj := rpF_jam p.jam on k HJK.out
            have hae : AN (k + 1) = ak := by rw [HA.out]; simp
            have sb3 := SB2.out.ext X3.out
            have ot3 := OT.out.ext X3.out
            have x4 := X2.out.tr X3.out
            clear c1 dj
            have HRJ := Lib.hid hrj
            have HAE := Lib.hid hae
            have SB3 := Lib.hid sb3
            have OT3 := Lib.hid ot3
            have X4 := Lib.hid x4
            clear hrj hae sb3 ot3 x4
            go_wp2
            go_roundw
            case rel => exact ⟨k + 1, ta, tc, by omega, by go_num, by rw [HAE.out], by rw [HRJ.out]; exact GT, SB3, by rw [HRJ.out]; exact OT3, X4⟩
            case measure => first | (simp [intOf]; done) | (simp [intOf]; omega)
        · have i4 : decide ((k:Int) < (no:Int)) = false := decide_eq_false (by omega)
          obtain rfl : no = k := by omega
          obtain ⟨A, hA⟩ : ∃ b, AN no = b := ⟨_, rfl⟩
          rw [hA]
          have HAA := Lib.hid hA
          clear hA
          cases A
          · obtain ⟨ws, rfl⟩ : ∃ W, W = wr := ⟨wr, rfl⟩
            have GTt := GT
            have SBt := SB2
            have OTt := OT
            have X2t := X2
            clear GT SB2 OT X2 GD SB OW X68
            have lws := X2t.out.size
            have LWS := Lib.hid lws
            clear lws
            have hmb := made_bools no
            rw [← gRow_zero (rpF p.jam on no) no] at hmb
            have HMB := Lib.hid hmb
            clear hmb
            go_upto_region 31 with (first
              | (refine wpList_makeN (n := no) tBools rfl rfl rfl rfl ?_ ?_
                 · omega
                 rintro wm hown hx
                 rw [HMB.out] at hown
                 have sb2 := SBt.out.ext hx
                 have ot2 := OTt.out.ext hx
                 have x2 := X2t.out.tr hx
                 clear SBt OTt X2t hx HMB
                 have SBt := Lib.hid sb2
                 have OTt := Lib.hid ot2
                 have X2t := Lib.hid x2
                 have GO := Lib.hid hown
                 clear sb2 ot2 x2 hown)
              | (with_reducible refine wpList_allocA (t := 69) rfl rfl Try.zeroValue69 ?_
                 rintro gb wg hx1 hx2 hx3
                 have lgz : wm.heap.size ≤ gb := hx3
                 clear hx3
                 have GB := Lib.hid hx1
                 have Zg := Lib.hid hx2
                 have LGZ := Lib.hid lgz
                 clear hx1 hx2 lgz)
              | (with_reducible refine wpList_storeK (ty := 69) (cells := #[.int .i64 2, .slice (some ⟨ws.heap.size, 0, none⟩) no no]) rfl rfl GB.out ?_ ?_ ?_ ?_ ?_ ?_
                 · rfl
                 · rfl
                 · kernel_rfl
                 · rfl
                 · simp [Value.oneCell']
                 rintro wh hb ho
                 have hx := Zg.out.then_only ho (fun k (e : k = gb) => by rw [e]; exact LGZ.out)
                 have sb2 := SBt.out.ext hx
                 have ot2 := OTt.out.ext hx
                 have x2 := X2t.out.tr hx
                 have go2 := owns_ext GO.out hx
                 have c3 := sb2.cell
                 clear SBt OTt X2t hx GO Zg LGZ ho GB
                 have SBt := Lib.hid sb2
                 have OTt := Lib.hid ot2
                 have X2t := Lib.hid x2
                 have GO := Lib.hid go2
                 have GB := Lib.hid hb
                 clear sb2 ot2 x2 go2 hb))
            have lmb : w6.heap.size ≤ ws.heap.size := LWS.out
            obtain ⟨mb, hmb⟩ : ∃ n, ws.heap.size = n := ⟨_, rfl⟩
            rw [hmb] at GO GB lmb ⊢
            clear hmb
            have j1 : ((no:Int) != (no:Int)) = false := by simp
            have LMB := Lib.hid lmb
            clear lmb
            go_upto_region 34 with (fail)
            clear c3 j1
            go_loopw [18] (fun t18 wr => ∃ k : Nat, k ≤ no ∧ t18 = .int .i64 k ∧ Hid (wr.ownsRow 0 4 1 (.slice (some ⟨mb, 0, none⟩) no no) no (gRow (rpF p.jam on no) no k)) ∧ Hid (Only (fun b => b = mb) wh wr)) (fun t18 _ => no - (intOf t18).toNat)
            case atStart => exact ⟨0, by omega, rfl, owns_weak GO.out (Nat.zero_le _), Only.refl _ _⟩
            case round =>
              obtain ⟨k, hk, rfl, GK, OK⟩ := hrel
              obtain ⟨g0, c0, cur, hv0, hbk, hroom, hcur⟩ := owns_blkN GO.out (by omega)
              cases hv0
              have nsb : ¬ sb = mb := fun e => absurd (blk_ty SBt.out (e ▸ hbk)) (by decide)
              have ngb : ¬ gb = mb := fun e => absurd (blk_ty GB.out (e ▸ hbk)) (by decide)
              have notb := owns_ne' OTt.out hbk (by decide)
              have sbk := SBt.out.only OK.out nsb
              have gbk := GB.out.only OK.out ngb
              have otk : OwU wr (.slice ta no tc) (stF 1 (rpF p.jam on no) no) := owns_only OTt.out OK.out notb
              have c3 := sbk.cell
              clear hcur hbk hroom cur
              by_cases hlt : k < no
              · have c4 := gbk.cell
                obtain ⟨g1, c5, cur, hv1, hbk, hroom, hcur⟩ := owns_blkN GK.out (by omega)
                cases hv1
                have hun := otk.un (by rw [stF_len]; omega)
                have hul : (stF 1 (rpF p.jam on no) no).units.length = no := stF_len _ _ _
                obtain ⟨ba, oa, hva, hca⟩ := UnIn.cells hun (by omega)
                subst hva
                have d3 := (hca k (by omega)).2.2.2.1
                have hgk : (stF 1 (rpF p.jam on no) no).units[k]'(by omega) = rpF p.jam on no k := by
                  have := stF_get 1 (rpF p.jam on no) no k hlt
                  rw [List.getD_eq_getElem?_getD, List.getElem?_eq_getElem (by omega)] at this
                  exact this
                rw [hgk] at d3
                obtain ⟨pk, hpk⟩ : ∃ b, (rpF p.jam on no k).pr = b := ⟨_, rfl⟩
                rw [hpk] at d3
                have hgs := gRow_set (rpF p.jam on no) no k hlt
                rw [hpk] at hgs
                have cm : wr.cell? ⟨mb, k, none⟩ = some (.bool (decide (k < k) && (rpF p.jam on no k).pr)) := by
                  refine owns_at GK.out rfl k _ ?_
                  unfold gRow; simp [hlt]
                have fr := hbk.free
                have i1 : (0:Int) ≤ (k:Int) := by omega
                have i2 : (k:Int) < (no:Int) := by omega
                clear hca hgk hul hpk hun
                have BK := Lib.hid hbk
                have GS := Lib.hid hgs
                clear hbk hgs
                go_upto_region 36 with (fail)
                go_region
                have B1 := blk_set BK.out k (.bool pk)
                have O1 := owns_putN GK.out BK.out B1
                rw [GS.out] at O1
                have hd : ∀ W : World, Ext W W.drew := fun W => (Below.refl _ W).drew
                have O2 := owns_ext O1 (hd _)
                have O3 := (OK.out.tr (Only.set (S := fun b => b = mb) wr ⟨mb, k, none⟩ (.bool pk) rfl)).tr (Only.of_ext (hd _))
                clear B1 O1 cm fr c3 c4 d3
                generalize World.drew _ = wz at *
                clear hd
                have OW2 := Lib.hid O2
                have ON := Lib.hid O3
                clear O2 O3
                go_wp2
                go_roundw
                case rel => exact ⟨k + 1, by omega, by go_num, OW2, ON⟩
                case measure => first | (simp [intOf]; done) | (simp [intOf]; omega)
              · have i2 : decide ((k:Int) < (no:Int)) = false := decide_eq_false (by omega)
                obtain rfl : no = k := by omega
                obtain ⟨gl, hgl⟩ : ∃ gl : GoalD, gl = ⟨2, (stF 1 (rpF p.jam on no) no).units.map (·.pr)⟩ := ⟨_, rfl⟩
                have hgp : gl.pressed = (stF 1 (rpF p.jam on no) no).units.map (·.pr) := by rw [hgl]
                have hgr := GK.out
                rw [gRow_end 1, ← hgp] at hgr
                have htg : Truths wr (.slice (some ⟨mb, 0, none⟩) no no) gl.pressed := Sl.of_owns hgr
                have x5 := X2t.out.then_only OK.out (fun k (e : k = mb) => by rw [e]; exact LMB.out)
                have hpp := pick_pos tn no (by omega)
                obtain ⟨u, hu⟩ : ∃ u : Nat, pick tn no = u := ⟨(pick tn no).toNat, by omega⟩
                rw [hu] at hpp
                have huo : u < no := by omega
                have hpk := fun W => pick_any tn no W HTN.out (by unfold I64; omega)
                rw [hu] at hpk
                have hbr := fun W (kx : Ext wr W) => rp_break GTt.out (by decide) huo (.slice va no ca) (.slice ta no tc) W (Sl.ext TR6.out (x5.tr kx)) (otk.ext kx)
                unfold pV at hbr
                unfold sV at hbr
                have c2 := (PB6.out.ext x5).cell
                have hthu := rpF_th p.jam on no u huo
                clear hgp hgr hu OK GK
                have HPK := Lib.hid hpk
                have HBR := Lib.hid hbr
                have HTG := Lib.hid htg
                have X5 := Lib.hid x5
                have SBK := Lib.hid sbk
                have GBK := Lib.hid gbk
                have OTK := Lib.hid otk
                have HTH := Lib.hid hthu
                have HGL := Lib.hid hgl
                clear hpk hbr htg x5 sbk gbk otk hthu hgl
                go_upto_region 38 with (
                  go_at_call 17
                  refine (HPK.out _).mono ?_
                  rintro e wz ⟨rfl, rfl⟩)
                obtain ⟨s2, hs2⟩ : ∃ s, brD (stF 1 (rpF p.jam on no) no) u = s := ⟨_, rfl⟩
                rw [hs2] at HBR
                have hs2l : s2.units.length = no := by rw [← hs2, brD_len, stF_len]
                have i1 : (0:Int) ≤ (u:Int) := by omega
                have i2 : (u:Int) < (no:Int) := by omega
                have HS2 := Lib.hid hs2
                have HL2 := Lib.hid hs2l
                clear hs2 hs2l
                by_cases hth : (rpF p.jam on no u).th = true
                · have hbr2 := fun W (kx : Ext wr W) => (HBR.out W kx).mono (fun e w' h => h.resolve_left (fun h => by rw [hth] at h; exact absurd h.1 (by decide)))
                  clear HBR
                  have HBR := Lib.hid hbr2
                  clear hbr2
                  go_upto_region 39 with (first
                    | (go_at_call 21
                       refine (HBR.out _ (Below.refl _ _)).mono ?_
                       rintro e w11 ⟨_, hg, v, rfl, hown, hx⟩
                       obtain ⟨a9, c9, hv9⟩ := hown.form
                       rw [HL2.out] at hv9
                       subst hv9
                       clear c2 c3 HBR
                       have x2 := X5.out.tr hx
                       have htg2 := Sl.ext HTG.out hx
                       have gb2 := GBK.out.ext hx
                       clear X5 HTG GBK hx
                       have X5 := Lib.hid x2
                       have HTG := Lib.hid htg2
                       have GBK := Lib.hid gb2
                       have GS2 := Lib.hid hg
                       have OW2 := Lib.hid hown
                       clear x2 htg2 gb2 hg hown)
                    | (with_reducible refine wpList_allocA (t := 36) rfl rfl Try.zeroValue36 ?_
                       rintro b2 w12 hx1 hx2 hx3
                       have lz2 : w11.heap.size ≤ b2 := hx3
                       clear hx3
                       have B2 := Lib.hid hx1
                       have Z2 := Lib.hid hx2
                       have LZ2 := Lib.hid lz2
                       clear hx1 hx2 lz2)
                    | (with_reducible refine wpList_storeK (ty := 36) (cells := #[.int .i64 s2.drive, .bool s2.folder, .slice a9 no c9, .int .i64 s2.fresh]) rfl rfl B2.out ?_ ?_ ?_ ?_ ?_ ?_
                       · rfl
                       · rfl
                       · kernel_rfl
                       · rfl
                       · simp [Value.oneCell']
                       rintro w13 hb ho
                       have hx := Z2.out.then_only ho (fun k (e : k = b2) => by rw [e]; exact LZ2.out)
                       have x2 := X5.out.tr hx
                       have htg2 := Sl.ext HTG.out hx
                       have gb2 := GBK.out.ext hx
                       have ow2 := OW2.out.ext hx
                       have c2 := (PB6.out.ext x2).cell
                       have c4 := gb2.cell
                       have c5 := hb.cell
                       clear X5 HTG GBK OW2 hx ho B2 Z2 LZ2
                       have X5 := Lib.hid x2
                       have HTG := Lib.hid htg2
                       have GBK := Lib.hid gb2
                       have OW2 := Lib.hid ow2
                       have B2 := Lib.hid hb
                       clear x2 htg2 gb2 ow2 hb))
                  clear i1 i2
                  clear c2 c4 c5
                  have xw := X6.out.tr X5.out
                  have XW := Lib.hid xw
                  clear xw
                  go_wp2_with (
                    go_at_call 10
                    refine (awake_any _).mono ?_
                    rintro e w14 ⟨rfl, hx⟩
                    have x2 := XW.out.tr hx
                    clear XW hx
                    have XW := Lib.hid x2
                    clear x2)
                  go_ret
                  exact ⟨rfl, XW.out⟩
                · have hth0 : (rpF p.jam on no u).th = false := by simpa using hth
                  have hbr2 := fun W (kx : Ext wr W) => (HBR.out W kx).mono (fun e w' h => h.resolve_right (fun h => hth h.1))
                  clear HBR
                  have hun := OTK.out.un (by rw [stF_len]; omega)
                  have hul : (stF 1 (rpF p.jam on no) no).units.length = no := stF_len _ _ _
                  obtain ⟨ba, oa, hva, hca⟩ := UnIn.cells hun (by omega)
                  subst hva
                  have d3 := (hca u (by omega)).2.1
                  have hgk : (stF 1 (rpF p.jam on no) no).units[u]'(by omega) = rpF p.jam on no u := by
                    have := stF_get 1 (rpF p.jam on no) no u huo
                    rw [List.getD_eq_getElem?_getD, List.getElem?_eq_getElem (by omega)] at this
                    exact this
                  rw [hgk, hth0] at d3
                  clear hca hgk hul hun
                  have HBR := Lib.hid hbr2
                  have D3 := Lib.hid d3
                  clear hbr2 d3
                  go_upto_region 40 with (first
                    | (go_at_call 21
                       refine (HBR.out _ (Below.refl _ _)).mono ?_
                       rintro e w11 ⟨_, sx, a9, c9, rfl, hx⟩
                       clear c2 c3 HBR
                       have x2 := X5.out.tr hx
                       have sb2 := SBK.out.ext hx
                       have d2 := hx.cellSome D3.out
                       clear X5 SBK hx D3
                       have X5 := Lib.hid x2
                       have SBK := Lib.hid sb2
                       have D3 := Lib.hid d2
                       clear x2 sb2 d2)
                    | (with_reducible refine wpList_allocA (t := 36) rfl rfl Try.zeroValue36 ?_
                       rintro b2 w12 hx1 hx2 hx3
                       have lz2 : w11.heap.size ≤ b2 := hx3
                       clear hx3
                       have B2 := Lib.hid hx1
                       have Z2 := Lib.hid hx2
                       have LZ2 := Lib.hid lz2
                       clear hx1 hx2 lz2)
                    | (with_reducible refine wpList_storeK (ty := 36) (cells := #[.int .i64 sx.drive, .bool sx.folder, .slice a9 sx.units.length c9, .int .i64 sx.fresh]) rfl rfl B2.out ?_ ?_ ?_ ?_ ?_ ?_
                       · rfl
                       · rfl
                       · kernel_rfl
                       · rfl
                       · simp [Value.oneCell']
                       rintro w13 hb ho
                       have hx := Z2.out.then_only ho (fun k (e : k = b2) => by rw [e]; exact LZ2.out)
                       have x2 := X5.out.tr hx
                       have d3 := hx.cellSome D3.out
                       have c3 := (SBK.out.ext hx).cell
                       have xw := X6.out.tr x2
                       clear X5 SBK D3 hx ho B2 Z2 LZ2
                       have XW := Lib.hid xw
                       clear xw))
                  go_wp2_with (
                    go_at_call 10
                    refine (awake_any _).mono ?_
                    rintro e w14 ⟨rfl, hx⟩
                    have x2 := XW.out.tr hx
                    clear XW hx
                    have XW := Lib.hid x2
                    clear x2)
                  go_ret
                  exact ⟨rfl, XW.out⟩

          · have hany : ∃ j, j < no ∧ p.jam.getD j false = false ∧ on.getD j false = true := by
              have h := HAA.out
              rw [HAN.out] at h
              obtain ⟨j, hj, hb⟩ := List.any_eq_true.1 h
              rw [Bool.and_eq_true, Bool.not_eq_true'] at hb
              exact ⟨j, List.mem_range.1 hj, hb⟩
            have hpr := stF_any 1 (rpF p.jam on no) no (by obtain ⟨j, h1, h2, h3⟩ := hany; exact ⟨j, h1, by unfold rpF; rw [if_pos ⟨h1, h2⟩]; exact h3⟩)
            have a8 : actErr p (stF 1 (rpF p.jam on no) no) 8 ((0:Nat):Int) = 0 := act_ok (by omega) (by omega) (by rw [stF_len]; omega) (fun _ => rfl) (by
              unfold allowD
              rw [hpr]
              simp [stF])
            have d8 : doD (stF 1 (rpF p.jam on no) no) 8 0 = stF 2 (rpF p.jam on no) no := rfl
            have hd2 := fun vu W (k : Ext w6 W) ho => do_ok GT.out 8 0 a8 d8 (.slice va no ca) vu W (Sl.ext TR6.out k) ho
            unfold pV sV at hd2
            have c2 := (PB6.out.ext X2.out).cell
            have c3 := SB2.out.cell
            have HAY := Lib.hid hany
            have HD2 := Lib.hid hd2
            clear hany hd2
            clear hpr a8 d8 GD SB OW X68
            go_upto_region 27 with (fail)
            go_upto_region 30 with (first
              | (go_at_call 22
                 obtain ⟨hg1, hcall⟩ := HD2.out _ _ X2.out OT.out
                 refine hcall.mono ?_
                 rintro e wB ⟨v, rfl, hown, hx⟩
                 obtain ⟨a2, c6, hv1⟩ := hown.form
                 rw [stF_len] at hv1
                 subst hv1
                 have sb2 := SB2.out.ext hx
                 have x2 := X2.out.tr hx
                 clear c2 c3 SB2 X2 hx hcall OT HD2 GT
                 have SB2 := Lib.hid sb2
                 have X2 := Lib.hid x2
                 have OT := Lib.hid hown
                 have GT := Lib.hid hg1
                 clear sb2 x2 hown hg1)
              | (with_reducible refine wpList_storeK (ty := 36) (cells := #[.int .i64 2, .bool false, .slice a2 no c6, .int .i64 0]) rfl rfl SB2.out ?_ ?_ ?_ ?_ ?_ ?_
                 · rfl
                 · rfl
                 · kernel_rfl
                 · rfl
                 · simp [Value.oneCell']
                 rintro ws hb ho
                 have how : OwU ws (.slice a2 no c6) (stF 2 (rpF p.jam on no) no) := owns_only OT.out ho (owns_ne' OT.out SB2.out (by decide))
                 have x2 := X2.out.then_only ho (fun k (e : k = sb) => by rw [e]; exact LZ.out)
                 clear SB2 OT X2 ho
                 have GTt := GT
                 clear GT
                 have lws := x2.size
                 have SBt := Lib.hid hb
                 have OTt := Lib.hid how
                 have X2t := Lib.hid x2
                 have LWS := Lib.hid lws
                 clear hb how x2 lws))
            obtain ⟨ta, hta⟩ : ∃ x, a2 = x := ⟨_, rfl⟩
            obtain ⟨tc, htc⟩ : ∃ x, c6 = x := ⟨_, rfl⟩
            rw [hta, htc] at SBt OTt ⊢
            clear hta htc
            have hmb := made_bools no
            rw [← gRow_zero (rpF p.jam on no) no] at hmb
            have HMB := Lib.hid hmb
            clear hmb
            go_upto_region 31 with (first
              | (refine wpList_makeN (n := no) tBools rfl rfl rfl rfl ?_ ?_
                 · omega
                 rintro wm hown hx
                 rw [HMB.out] at hown
                 have sb2 := SBt.out.ext hx
                 have ot2 := OTt.out.ext hx
                 have x2 := X2t.out.tr hx
                 clear SBt OTt X2t hx HMB
                 have SBt := Lib.hid sb2
                 have OTt := Lib.hid ot2
                 have X2t := Lib.hid x2
                 have GO := Lib.hid hown
                 clear sb2 ot2 x2 hown)
              | (with_reducible refine wpList_allocA (t := 69) rfl rfl Try.zeroValue69 ?_
                 rintro gb wg hx1 hx2 hx3
                 have lgz : wm.heap.size ≤ gb := hx3
                 clear hx3
                 have GB := Lib.hid hx1
                 have Zg := Lib.hid hx2
                 have LGZ := Lib.hid lgz
                 clear hx1 hx2 lgz)
              | (with_reducible refine wpList_storeK (ty := 69) (cells := #[.int .i64 2, .slice (some ⟨ws.heap.size, 0, none⟩) no no]) rfl rfl GB.out ?_ ?_ ?_ ?_ ?_ ?_
                 · rfl
                 · rfl
                 · kernel_rfl
                 · rfl
                 · simp [Value.oneCell']
                 rintro wh hb ho
                 have hx := Zg.out.then_only ho (fun k (e : k = gb) => by rw [e]; exact LGZ.out)
                 have sb2 := SBt.out.ext hx
                 have ot2 := OTt.out.ext hx
                 have x2 := X2t.out.tr hx
                 have go2 := owns_ext GO.out hx
                 have c3 := sb2.cell
                 clear SBt OTt X2t hx GO Zg LGZ ho GB
                 have SBt := Lib.hid sb2
                 have OTt := Lib.hid ot2
                 have X2t := Lib.hid x2
                 have GO := Lib.hid go2
                 have GB := Lib.hid hb
                 clear sb2 ot2 x2 go2 hb))
            have lmb : w6.heap.size ≤ ws.heap.size := LWS.out
            obtain ⟨mb, hmb⟩ : ∃ n, ws.heap.size = n := ⟨_, rfl⟩
            rw [hmb] at GO GB lmb ⊢
            clear hmb
            have j1 : ((no:Int) != (no:Int)) = false := by simp
            have LMB := Lib.hid lmb
            clear lmb
            go_upto_region 34 with (fail)
            clear c3 j1
            go_loopw [18] (fun t18 wr => ∃ k : Nat, k ≤ no ∧ t18 = .int .i64 k ∧ Hid (wr.ownsRow 0 4 1 (.slice (some ⟨mb, 0, none⟩) no no) no (gRow (rpF p.jam on no) no k)) ∧ Hid (Only (fun b => b = mb) wh wr)) (fun t18 _ => no - (intOf t18).toNat)
            case atStart => exact ⟨0, by omega, rfl, owns_weak GO.out (Nat.zero_le _), Only.refl _ _⟩
            case round =>
              obtain ⟨k, hk, rfl, GK, OK⟩ := hrel
              obtain ⟨g0, c0, cur, hv0, hbk, hroom, hcur⟩ := owns_blkN GO.out (by omega)
              cases hv0
              have nsb : ¬ sb = mb := fun e => absurd (blk_ty SBt.out (e ▸ hbk)) (by decide)
              have ngb : ¬ gb = mb := fun e => absurd (blk_ty GB.out (e ▸ hbk)) (by decide)
              have notb := owns_ne' OTt.out hbk (by decide)
              have sbk := SBt.out.only OK.out nsb
              have gbk := GB.out.only OK.out ngb
              have otk : OwU wr (.slice ta no tc) (stF 2 (rpF p.jam on no) no) := owns_only OTt.out OK.out notb
              have c3 := sbk.cell
              clear hcur hbk hroom cur
              by_cases hlt : k < no
              · have c4 := gbk.cell
                obtain ⟨g1, c5, cur, hv1, hbk, hroom, hcur⟩ := owns_blkN GK.out (by omega)
                cases hv1
                have hun := otk.un (by rw [stF_len]; omega)
                have hul : (stF 2 (rpF p.jam on no) no).units.length = no := stF_len _ _ _
                obtain ⟨ba, oa, hva, hca⟩ := UnIn.cells hun (by omega)
                subst hva
                have d3 := (hca k (by omega)).2.2.2.1
                have hgk : (stF 2 (rpF p.jam on no) no).units[k]'(by omega) = rpF p.jam on no k := by
                  have := stF_get 2 (rpF p.jam on no) no k hlt
                  rw [List.getD_eq_getElem?_getD, List.getElem?_eq_getElem (by omega)] at this
                  exact this
                rw [hgk] at d3
                obtain ⟨pk, hpk⟩ : ∃ b, (rpF p.jam on no k).pr = b := ⟨_, rfl⟩
                rw [hpk] at d3
                have hgs := gRow_set (rpF p.jam on no) no k hlt
                rw [hpk] at hgs
                have cm : wr.cell? ⟨mb, k, none⟩ = some (.bool (decide (k < k) && (rpF p.jam on no k).pr)) := by
                  refine owns_at GK.out rfl k _ ?_
                  unfold gRow; simp [hlt]
                have fr := hbk.free
                have i1 : (0:Int) ≤ (k:Int) := by omega
                have i2 : (k:Int) < (no:Int) := by omega
                clear hca hgk hul hpk hun
                have BK := Lib.hid hbk
                have GS := Lib.hid hgs
                clear hbk hgs
                go_upto_region 36 with (fail)
                go_region
                have B1 := blk_set BK.out k (.bool pk)
                have O1 := owns_putN GK.out BK.out B1
                rw [GS.out] at O1
                have hd : ∀ W : World, Ext W W.drew := fun W => (Below.refl _ W).drew
                have O2 := owns_ext O1 (hd _)
                have O3 := (OK.out.tr (Only.set (S := fun b => b = mb) wr ⟨mb, k, none⟩ (.bool pk) rfl)).tr (Only.of_ext (hd _))
                clear B1 O1 cm fr c3 c4 d3
                generalize World.drew _ = wz at *
                clear hd
                have OW2 := Lib.hid O2
                have ON := Lib.hid O3
                clear O2 O3
                go_wp2
                go_roundw
                case rel => exact ⟨k + 1, by omega, by go_num, OW2, ON⟩
                case measure => first | (simp [intOf]; done) | (simp [intOf]; omega)
              · have i2 : decide ((k:Int) < (no:Int)) = false := decide_eq_false (by omega)
                obtain rfl : no = k := by omega
                obtain ⟨gl, hgl⟩ : ∃ gl : GoalD, gl = ⟨2, (stF 2 (rpF p.jam on no) no).units.map (·.pr)⟩ := ⟨_, rfl⟩
                have hgp : gl.pressed = (stF 2 (rpF p.jam on no) no).units.map (·.pr) := by rw [hgl]
                have hgr := GK.out
                rw [gRow_end 2, ← hgp] at hgr
                have htg : Truths wr (.slice (some ⟨mb, 0, none⟩) no no) gl.pressed := Sl.of_owns hgr
                have x5 := X2t.out.then_only OK.out (fun k (e : k = mb) => by rw [e]; exact LMB.out)
                have hpp := pick_pos tn no (by omega)
                obtain ⟨u, hu⟩ : ∃ u : Nat, pick tn no = u := ⟨(pick tn no).toNat, by omega⟩
                rw [hu] at hpp
                have huo : u < no := by omega
                have hpk := fun W => pick_any tn no W HTN.out (by unfold I64; omega)
                rw [hu] at hpk
                have hbr := fun W (kx : Ext wr W) => rp_break GTt.out (by decide) huo (.slice va no ca) (.slice ta no tc) W (Sl.ext TR6.out (x5.tr kx)) (otk.ext kx)
                unfold pV at hbr
                unfold sV at hbr
                have c2 := (PB6.out.ext x5).cell
                have hthu := rpF_th p.jam on no u huo
                clear hgp hgr hu OK GK
                have HPK := Lib.hid hpk
                have HBR := Lib.hid hbr
                have HTG := Lib.hid htg
                have X5 := Lib.hid x5
                have SBK := Lib.hid sbk
                have GBK := Lib.hid gbk
                have OTK := Lib.hid otk
                have HTH := Lib.hid hthu
                have HGL := Lib.hid hgl
                clear hpk hbr htg x5 sbk gbk otk hthu hgl
                go_upto_region 38 with (
                  go_at_call 17
                  refine (HPK.out _).mono ?_
                  rintro e wz ⟨rfl, rfl⟩)
                obtain ⟨s2, hs2⟩ : ∃ s, brD (stF 2 (rpF p.jam on no) no) u = s := ⟨_, rfl⟩
                rw [hs2] at HBR
                have hs2l : s2.units.length = no := by rw [← hs2, brD_len, stF_len]
                have i1 : (0:Int) ≤ (u:Int) := by omega
                have i2 : (u:Int) < (no:Int) := by omega
                have HS2 := Lib.hid hs2
                have HL2 := Lib.hid hs2l
                clear hs2 hs2l
                by_cases hth : (rpF p.jam on no u).th = true
                · have hbr2 := fun W (kx : Ext wr W) => (HBR.out W kx).mono (fun e w' h => h.resolve_left (fun h => by rw [hth] at h; exact absurd h.1 (by decide)))
                  clear HBR
                  have HBR := Lib.hid hbr2
                  clear hbr2
                  go_upto_region 39 with (first
                    | (go_at_call 21
                       refine (HBR.out _ (Below.refl _ _)).mono ?_
                       rintro e w11 ⟨_, hg, v, rfl, hown, hx⟩
                       obtain ⟨a9, c9, hv9⟩ := hown.form
                       rw [HL2.out] at hv9
                       subst hv9
                       clear c2 c3 HBR
                       have x2 := X5.out.tr hx
                       have htg2 := Sl.ext HTG.out hx
                       have gb2 := GBK.out.ext hx
                       clear X5 HTG GBK hx
                       have X5 := Lib.hid x2
                       have HTG := Lib.hid htg2
                       have GBK := Lib.hid gb2
                       have GS2 := Lib.hid hg
                       have OW2 := Lib.hid hown
                       clear x2 htg2 gb2 hg hown)
                    | (with_reducible refine wpList_allocA (t := 36) rfl rfl Try.zeroValue36 ?_
                       rintro b2 w12 hx1 hx2 hx3
                       have lz2 : w11.heap.size ≤ b2 := hx3
                       clear hx3
                       have B2 := Lib.hid hx1
                       have Z2 := Lib.hid hx2
                       have LZ2 := Lib.hid lz2
                       clear hx1 hx2 lz2)
                    | (with_reducible refine wpList_storeK (ty := 36) (cells := #[.int .i64 s2.drive, .bool s2.folder, .slice a9 no c9, .int .i64 s2.fresh]) rfl rfl B2.out ?_ ?_ ?_ ?_ ?_ ?_
                       · rfl
                       · rfl
                       · kernel_rfl
                       · rfl
                       · simp [Value.oneCell']
                       rintro w13 hb ho
                       have hx := Z2.out.then_only ho (fun k (e : k = b2) => by rw [e]; exact LZ2.out)
                       have x2 := X5.out.tr hx
                       have htg2 := Sl.ext HTG.out hx
                       have gb2 := GBK.out.ext hx
                       have ow2 := OW2.out.ext hx
                       have c2 := (PB6.out.ext x2).cell
                       have c4 := gb2.cell
                       have c5 := hb.cell
                       clear X5 HTG GBK OW2 hx ho B2 Z2 LZ2
                       have X5 := Lib.hid x2
                       have HTG := Lib.hid htg2
                       have GBK := Lib.hid gb2
                       have OW2 := Lib.hid ow2
                       have B2 := Lib.hid hb
                       clear x2 htg2 gb2 ow2 hb))
                  clear i1 i2
                  have hany := HAY.out
                  obtain ⟨tt, ac, hrun, hful, hlen⟩ := repair (p := p) HNJ.out huo (HTH.out.1 hth) hany
                  rw [HS2.out] at hrun
                  rw [← HGL.out] at hful
                  have haim : aimedD s2 gl = true := by
                    unfold aimedD
                    rw [HGL.out, HL2.out]
                    simp [stF_len]
                  obtain ⟨l, hfi, hve⟩ := rp_find GS2.out haim hrun hful (by omega)
                  have hgd : gl.drive = 2 := by rw [HGL.out]
                  have tr2 := Sl.ext TR6.out X5.out
                  have hfi2 := fun W (kx : Ext w13 W) => hfi (.slice va no ca) (.slice a9 no c9) (.slice (some ⟨mb, 0, none⟩) no no) W (Sl.ext tr2 kx) (OW2.out.ext kx) (Sl.ext HTG.out kx)
                  have hve2 := fun vl W (kx : Ext w13 W) hv => hve (.slice va no ca) (.slice a9 no c9) (.slice (some ⟨mb, 0, none⟩) no no) vl W (Sl.ext tr2 kx) (OW2.out.ext kx) (Sl.ext HTG.out kx) hv
                  unfold pV sV gV at hfi2 hve2
                  rw [hgd] at hfi2 hve2
                  clear hany hrun hful hlen haim hfi hve hgd tr2
                  have xw := X6.out.tr X5.out
                  have XW := Lib.hid xw
                  have HFI := Lib.hid hfi2
                  have HVE := Lib.hid hve2
                  clear xw hfi2 hve2
                  go_upto_region 44 with (
                    go_at_call 25
                    refine (HFI.out _ (Below.refl _ _)).mono ?_
                    rintro e w14 ⟨vl, rfl, hac, hx⟩
                    obtain ⟨al, cl, hvl⟩ : ∃ a c, vl = .slice a l.length c := by obtain ⟨_, a, c, h, _⟩ := id hac; exact ⟨a, c, h⟩
                    subst hvl
                    have x2 := XW.out.tr hx
                    clear c2 c4 c5
                    have c2 := (PB6.out.ext (X5.out.tr hx)).cell
                    have c4 := (GBK.out.ext hx).cell
                    have c5 := (B2.out.ext hx).cell
                    clear XW
                    have XW := Lib.hid x2
                    have AC := Lib.hid hac
                    have X14 := Lib.hid hx
                    clear x2 hac hx)
                  go_wp2_with (first
                    | (go_at_call 26
                       refine (HVE.out _ _ X14.out AC.out).mono ?_
                       rintro e w15 ⟨rfl, hx⟩
                       have x2 := XW.out.tr hx
                       clear XW hx
                       have XW := Lib.hid x2
                       clear x2)
                    | (go_at_call 10
                       refine (awake_any _).mono ?_
                       rintro e w16 ⟨rfl, hx⟩
                       have x2 := XW.out.tr hx
                       clear XW hx
                       have XW := Lib.hid x2
                       clear x2))
                  go_ret
                  exact ⟨rfl, XW.out⟩
                · have hth0 : (rpF p.jam on no u).th = false := by simpa using hth
                  have hbr2 := fun W (kx : Ext wr W) => (HBR.out W kx).mono (fun e w' h => h.resolve_right (fun h => hth h.1))
                  clear HBR
                  have hun := OTK.out.un (by rw [stF_len]; omega)
                  have hul : (stF 2 (rpF p.jam on no) no).units.length = no := stF_len _ _ _
                  obtain ⟨ba, oa, hva, hca⟩ := UnIn.cells hun (by omega)
                  subst hva
                  have d3 := (hca u (by omega)).2.1
                  have hgk : (stF 2 (rpF p.jam on no) no).units[u]'(by omega) = rpF p.jam on no u := by
                    have := stF_get 2 (rpF p.jam on no) no u huo
                    rw [List.getD_eq_getElem?_getD, List.getElem?_eq_getElem (by omega)] at this
                    exact this
                  rw [hgk, hth0] at d3
                  clear hca hgk hul hun
                  have HBR := Lib.hid hbr2
                  have D3 := Lib.hid d3
                  clear hbr2 d3
                  go_upto_region 40 with (first
                    | (go_at_call 21
                       refine (HBR.out _ (Below.refl _ _)).mono ?_
                       rintro e w11 ⟨_, sx, a9, c9, rfl, hx⟩
                       clear c2 c3 HBR
                       have x2 := X5.out.tr hx
                       have sb2 := SBK.out.ext hx
                       have d2 := hx.cellSome D3.out
                       clear X5 SBK hx D3
                       have X5 := Lib.hid x2
                       have SBK := Lib.hid sb2
                       have D3 := Lib.hid d2
                       clear x2 sb2 d2)
                    | (with_reducible refine wpList_allocA (t := 36) rfl rfl Try.zeroValue36 ?_
                       rintro b2 w12 hx1 hx2 hx3
                       have lz2 : w11.heap.size ≤ b2 := hx3
                       clear hx3
                       have B2 := Lib.hid hx1
                       have Z2 := Lib.hid hx2
                       have LZ2 := Lib.hid lz2
                       clear hx1 hx2 lz2)
                    | (with_reducible refine wpList_storeK (ty := 36) (cells := #[.int .i64 sx.drive, .bool sx.folder, .slice a9 sx.units.length c9, .int .i64 sx.fresh]) rfl rfl B2.out ?_ ?_ ?_ ?_ ?_ ?_
                       · rfl
                       · rfl
                       · kernel_rfl
                       · rfl
                       · simp [Value.oneCell']
                       rintro w13 hb ho
                       have hx := Z2.out.then_only ho (fun k (e : k = b2) => by rw [e]; exact LZ2.out)
                       have x2 := X5.out.tr hx
                       have d3 := hx.cellSome D3.out
                       have c3 := (SBK.out.ext hx).cell
                       have xw := X6.out.tr x2
                       clear X5 SBK D3 hx ho B2 Z2 LZ2
                       have XW := Lib.hid xw
                       clear xw))
                  go_wp2_with (
                    go_at_call 10
                    refine (awake_any _).mono ?_
                    rintro e w14 ⟨rfl, hx⟩
                    have x2 := XW.out.tr hx
                    clear XW hx
                    have XW := Lib.hid x2
                    clear x2)
                  go_ret
                  exact ⟨rfl, XW.out⟩

    · have j1 : ((no:Int) != (nj:Int)) = true := by simp; omega
      · go_wp2_with (first
          | (go_at_call 19
             refine (HCK.out _ (Below.refl _ _)).mono ?_
             rintro e w5 ⟨rfl, hx⟩
             clear c1 c2
             have c1 := (XB.out.ext hx).cell
             have x2 := X.out.tr hx
             clear X hx HCK
             have X := Lib.hid x2
             clear x2)
          | (go_at_call 10
             refine (awake_any _).mono ?_
             rintro e w6 ⟨rfl, hx⟩
             have x2 := X.out.tr hx
             clear X hx
             have X := Lib.hid x2
             clear x2))
        go_ret
        exact ⟨rfl, X.out⟩
  · have f1 : (e1 != 0) = true := by simp [h1]
    · go_wp2_with (first
        | (go_at_call 19
           refine (HCK.out _ (Below.refl _ _)).mono ?_
           rintro e w5 ⟨rfl, hx⟩
           clear c1 c2
           have c1 := (XB.out.ext hx).cell
           have x2 := X.out.tr hx
           clear X hx HCK
           have X := Lib.hid x2
           clear x2)
        | (go_at_call 10
           refine (awake_any _).mono ?_
           rintro e w6 ⟨rfl, hx⟩
           have x2 := X.out.tr hx
           clear X hx
           have X := Lib.hid x2
           clear x2))
      go_ret
      exact ⟨rfl, X.out⟩
end Go.Proofs.Ytojobdffnnibaaa
