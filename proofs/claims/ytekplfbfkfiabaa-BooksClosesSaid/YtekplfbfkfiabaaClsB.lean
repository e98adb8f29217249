/- BooksCloses returns true. -/
import Derived.Test.YtekplfbfkfiabaaPlainCs
import Derived.Test.YtekplfbfkfiabaaKept
import Derived.Test.YtekplfbfkfiabaaBkLawB
import Derived.Test.YtekplfbfkfiabaaBkAwake
import Derived.Deep.CutRange
namespace Go.Proofs.Ytekplfbfkfiabaa
open Go.RowKit Go.Shelf
set_option linter.unusedVariables false
set_option linter.unusedSimpArgs false
attribute [local go_sem] Oper.semAt_some

set_option maxRecDepth 100000 in
set_option maxHeartbeats 8000000 in
theorem closes_true (key : Int) (l : List AccD) (ds ds2 : List DeedD) (ns : List Int) (va vd vd2 vn : Value) (w : World) (ha : AccIn w va l) (hd : DeedIn w vd ds) (hd2 : DeedIn w vd2 ds2) (hv : Ints w vn ns) (hk : U64 key) (hns : ∀ x ∈ ns, I64 x) (hb : l.length * 16 ≤ 140737488355328) :
    Calls Try.prog 6 #[.int .u64 key, va, vd, vd2, vn] w fun e w' => e = .returned (.bool true) ∧ Ext w w' := by
  have hp : ∀ e w', e = Ending.returned (.bool true) ∧ Ext w w' → e = Ending.returned (.bool true) ∧ Ext w w' := fun _ _ h => h
  have hal := ha.len
  have hdl := hd.len
  have hdl2 := hd2.len
  have hvl := hv.len
  obtain ⟨aa, ca, rfl, HA⟩ := ha.form
  obtain ⟨ad, cd, rfl, HD⟩ := hd.form
  obtain ⟨ad2, cd2, rfl, HD2⟩ := hd2.form
  obtain ⟨an, cn, rfl, HV⟩ := hv.form
  clear ha hd hd2 hv
  have HB := Lib.hid hb
  have HP := Lib.hid hp
  clear hp
  obtain ⟨er, her⟩ : ∃ er, er = checkE l := ⟨_, rfl⟩
  have HCE := Lib.hid her.symm
  by_cases hc : er = 0
  · have hc2 : checkE l = 0 := her.symm.trans hc
    have hl40 : 1 ≤ l.length ∧ l.length ≤ 40 := (LedOk.new hk hc2).n1
    obtain ⟨hl1, hl2⟩ := hl40
    subst hc
    by_cases hn : ds.length ≤ 30
    · by_cases hn2 : ds2.length ≤ 30
      · have i1 : (ds.length : Int) ≤ 30 := by omega
        have i2 : (ds2.length : Int) ≤ 30 := by omega
        have i3 : (l.length : Int) ≤ 40 := by omega
        have hkp := fun (w1 : World) (v1 v2 : Value) (h1 : AccIn w1 v1 l) (h2 : DeedIn w1 v2 ds) => kept_any key l ds v1 v2 w1 h1 h2 hk hc2 (by omega)
        have HKP := Lib.hid hkp
        have HNS := Lib.hid hns
        clear hkp hns
        clear her hc2 hk
        go_enter Try.func6, Try.ntmps6
        go_upto_region 4 with (first
          | (go_at_call 25
             refine (accounts_big l _ _ HA.out HB.out).mono ?_
             rintro e w1 ⟨v1, rfl, hx1, ho1⟩
             have h1 : AccIn w1 v1 l := StIn.of_owns accC_len ho1 hal
             clear ho1
             obtain ⟨a1, c1, rfl, _⟩ := h1.form
             have X := Lib.hid hx1
             have I1 := Lib.hid h1
             clear hx1 h1
             )
          | (go_at_call 26
             refine (check_any l _ _ I1.out).mono ?_
             rintro e w2 ⟨rfl, hx2⟩
             rw [HCE.out]
             replace X := Lib.hid (X.out.ext hx2)
             replace I1 := Lib.hid (I1.out.ext hx2)
             clear hx2))
        go_upto_region 9 with (
          go_at_call 27
          refine (HKP.out _ _ _ I1.out (HD.out.ext X.out)).mono ?_
          rintro e w3 ⟨lb, d, m, dy, rfl, hls, hkp, hdy, hx3⟩
          have hB := X.out.size
          obtain ⟨B, hBe⟩ : ∃ B, B = w2.heap.size := ⟨_, rfl⟩
          rw [← hBe] at hls hB
          replace X := Lib.hid (X.out.ext hx3)
          clear I1 hx3 hBe
          have L := Lib.hid hls
          have KP := Lib.hid hkp
          have HBB := Lib.hid hB
          have HDY := Lib.hid hdy
          clear hls hkp hB hdy)
        clear HKP HCE
        have hla : d.last ≤ 1000 := by
          have := KP.out.last
          have := HDY.out
          omega
        have hlc : d.closed < 1000 := by
          have := KP.out.clo
          have := HDY.out
          omega
        have hbU := fun i : Int => balU_last KP.out.ok hla i
        have hdn : d.n = l.length := by unfold LedD.n; rw [KP.out.acc]
        have hat : ∀ (i : Nat) (h : i < l.length), d.at' (i : Int) = l[i] := fun i h => by
          rw [at_nat (by rw [hdn]; exact h)]
          simp only [KP.out.acc]
        have HBU := Lib.hid hbU
        have HDN := Lib.hid hdn
        have HAT := Lib.hid hat
        have HLA := Lib.hid hla
        have HLC := Lib.hid hlc
        clear hbU hdn hat hla hlc
        go_loopw [14, 15, 16] (fun v1 v2 t wr => ∃ (i : Nat) (cs ws : List Int), i ≤ l.length ∧ t = .int .i64 i ∧ Hid (R2 w3.heap.size wr v1 v2 cs ws) ∧ Hid (cs.length = (stkN l i).length ∧ ws = (stkN l i).map (fun j : Nat => balU (j : Int) 1000 d.ents)) ∧ Hid (∀ c ∈ cs, 0 ≤ c ∧ c ≤ 4999) ∧ Hid (Ext w3 wr)) (fun _ _ t _ => l.length - (intOf t).toNat)
        case atStart => exact ⟨0, [], [], Nat.zero_le _, rfl, ⟨World.ownsRow_nil _ _ _ _, World.ownsRow_nil _ _ _ _, fun b h => by cases h⟩, ⟨rfl, rfl⟩, Lib.hid (by intro c h; cases h), Below.refl _ _⟩
        case round =>
          obtain ⟨i, cs, ws, hi, rfl, HR, HLN, HCS, X2⟩ := hrel
          obtain ⟨a1, c1, rfl⟩ := row_form HR.out.o1
          obtain ⟨a2, c2, rfl⟩ := row_form HR.out.o2
          by_cases hil : i < l.length
          · skip
            as_aux_lemma =>
              obtain ⟨b1, o1, rfl, hc1⟩ := HA.out.cells (by omega)
              have hxw := X.out.tr X2.out
              have e1 := hxw.cellSome (hc1 i hil).2
              have hss := stkN_succ l i
              have hg : l.getD i default = l[i] := by simp [List.getD, hil]
              rw [hg] at hss
              have hcl2 : cs.length ≤ 40 := by have := HLN.out.1; have := stkN_len l i; omega
              have hwl : ws.length ≤ 40 := by rw [HLN.out.2, List.length_map]; have := stkN_len l i; omega
              have hbe : balErr d (i : Int) 1000 = 0 := by unfold balErr; rw [if_pos ⟨by omega, by have := HDN.out; omega⟩, if_pos (by decide)]
              have hbv : balV d (i : Int) 1000 = balU (i : Int) 1000 d.ents := by unfold balV; rw [if_pos hbe]
              have hbal := fun W (h : LSt W B lb d m) => Balance_any B lb d m (i : Int) 1000 W h KP.out.ok
              rw [hbe, hbv] at hbal
              obtain ⟨bl, hble⟩ : ∃ y, y = balU (i : Int) 1000 d.ents := ⟨_, rfl⟩
              rw [← hble] at hbal
              obtain ⟨y, hy⟩ : ∃ y, y = l[i] := ⟨_, rfl⟩
              rw [← hy] at e1 hss
              obtain ⟨yg, ys⟩ := y
              dsimp only at e1 hss
              have m1 : (0:Int) ≤ (i:Int) := by omega
              have m2 : (i:Int) < (l.length:Int) := by omega
              have HSS := Lib.hid hss
              have HBAL := Lib.hid hbal
              have HBL := Lib.hid hble
              clear hss hbal hble
              clear hc1 hy hg hxw hbe hbv
              cases ys with
              | false =>
                go_wp2
                go_roundw
                case rel => exact ⟨i + 1, cs, ws, by omega, by go_num, HR, Lib.hid (by rw [HSS.out]; simpa using HLN.out), HCS, X2⟩
                case measure => simp [intOf]; omega
              | true =>
                by_cases hn0 : ns.length = 0
                · have HYV : Hid ((0:Int) ≤ 0 ∧ (0:Int) ≤ 4999) := Lib.hid ⟨by omega, by omega⟩
                  have j7 : ¬ ((ns.length : Int) > 0) := by omega
                  clear hn0
                  go_upto_region 16 with (
                    at_builtin
                    refine wpList_app tInts rfl rfl rfl (owns_ext HR.out.o1 (ext_lit _ _ _)) rfl (Src.lit _ [.int .i64 (0 : Int)] 1 1 rfl 3 1) (by simp [Value.oneCell']) (by omega) (Nat.le_trans X2.out.size (by simp)) ?_
                    rintro v' w8 q1 q2 q3
                    have hx8 := ext_grown (X2.out.tr (ext_lit _ _ _)) (owns_ext HR.out.o1 (ext_lit _ _ _)) q2
                    have hr8 := (HR.out.ext (ext_lit _ _ _)).app1 q1 q2 q3
                    clear HR X2 q1 q2 q3
                    have HR := Lib.hid hr8
                    have X2 := Lib.hid hx8
                    clear hr8 hx8)
                  go_upto_region 19 with (
                    go_at_call 28
                    refine (HBAL.out _ (L.out.ext X2.out)).mono ?_
                    rintro e w9 ⟨rfl, hx9⟩
                    replace HR := Lib.hid (HR.out.ext hx9)
                    replace X2 := Lib.hid (X2.out.ext hx9)
                    clear hx9)
                  go_upto_region 10 with (
                    at_builtin
                    refine wpList_app tInts rfl rfl rfl (owns_ext HR.out.o2 (ext_lit _ _ _)) rfl (Src.lit _ [.int .i64 bl] 1 1 rfl 3 1) (by simp [Value.oneCell']) (by omega) (Nat.le_trans X2.out.size (by simp)) ?_
                    rintro v2' w10 q1 q2 q3
                    have hx10 := ext_grown (X2.out.tr (ext_lit _ _ _)) (owns_ext HR.out.o2 (ext_lit _ _ _)) q2
                    have hr10 := (HR.out.ext (ext_lit _ _ _)).app2 q1 q2 q3
                    clear HR X2 q1 q2 q3
                    have HR := Lib.hid hr10
                    have X2 := Lib.hid hx10
                    clear hr10 hx10)
                  go_wp2
                  go_roundw
                  case rel => exact ⟨i + 1, cs ++ [(0 : Int)], ws ++ [bl], by omega, by go_num, HR, Lib.hid (by rw [HSS.out]; exact ⟨by rw [List.length_append, List.length_append, HLN.out.1]; rfl, by rw [List.map_append, HLN.out.2, HBL.out]; rfl⟩), Lib.hid (by
                    intro c hc
                    rcases List.mem_append.1 hc with hc | hc
                    · exact HCS.out c hc
                    · rw [List.mem_singleton.1 hc]; exact HYV.out), X2⟩
                  case measure => simp [intOf]; omega
                · have hq : i % ns.length < ns.length := Nat.mod_lt _ (by omega)
                  have j7 : (ns.length : Int) > 0 := by omega
                  obtain ⟨b3, o3, rfl, hc3⟩ := HV.out.cells (by omega)
                  have c7 := (X.out.tr X2.out).cellSome (hc3 _ hq)
                  have hu6 := HNS.out _ (List.getElem_mem hq)
                  obtain ⟨u, hu⟩ : ∃ u, u = ns[i % ns.length] := ⟨_, rfl⟩
                  rw [← hu] at c7 hu6
                  have hmod : (i : Int).tmod (ns.length : Int) = ((i % ns.length : Nat) : Int) := by rw [Int.ofNat_tmod]
                  obtain ⟨q, hqe⟩ : ∃ q, q = i % ns.length := ⟨_, rfl⟩
                  rw [← hqe] at c7 hq hmod
                  have hqp := fun W => pick_any u 5000 W hu6 (by unfold I64; omega)
                  have hqr := pick_pos u 5000 (by omega)
                  obtain ⟨yv, hyv⟩ : ∃ p, p = pick u 5000 := ⟨_, rfl⟩
                  rw [← hyv] at hqp hqr
                  have HYV : Hid (0 ≤ yv ∧ yv ≤ 4999) := Lib.hid ⟨hqr.1, by omega⟩
                  have j8 : (0:Int) ≤ (q:Int) := by omega
                  have j9 : (q:Int) < (ns.length:Int) := by omega
                  have HQP := Lib.hid hqp
                  clear hqp
                  clear hc3 hu hqe hyv hqr hu6
                  go_upto_region 15 with (go_at_call 24; refine (HQP.out _).mono ?_; rintro e w' ⟨rfl, rfl⟩)
                  go_upto_region 16 with (
                    at_builtin
                    refine wpList_app tInts rfl rfl rfl (owns_ext HR.out.o1 (ext_lit _ _ _)) rfl (Src.lit _ [.int .i64 yv] 1 1 rfl 3 1) (by simp [Value.oneCell']) (by omega) (Nat.le_trans X2.out.size (by simp)) ?_
                    rintro v' w8 q1 q2 q3
                    have hx8 := ext_grown (X2.out.tr (ext_lit _ _ _)) (owns_ext HR.out.o1 (ext_lit _ _ _)) q2
                    have hr8 := (HR.out.ext (ext_lit _ _ _)).app1 q1 q2 q3
                    clear HR X2 q1 q2 q3
                    have HR := Lib.hid hr8
                    have X2 := Lib.hid hx8
                    clear hr8 hx8)
                  go_upto_region 19 with (
                    go_at_call 28
                    refine (HBAL.out _ (L.out.ext X2.out)).mono ?_
                    rintro e w9 ⟨rfl, hx9⟩
                    replace HR := Lib.hid (HR.out.ext hx9)
                    replace X2 := Lib.hid (X2.out.ext hx9)
                    clear hx9)
                  go_upto_region 10 with (
                    at_builtin
                    refine wpList_app tInts rfl rfl rfl (owns_ext HR.out.o2 (ext_lit _ _ _)) rfl (Src.lit _ [.int .i64 bl] 1 1 rfl 3 1) (by simp [Value.oneCell']) (by omega) (Nat.le_trans X2.out.size (by simp)) ?_
                    rintro v2' w10 q1 q2 q3
                    have hx10 := ext_grown (X2.out.tr (ext_lit _ _ _)) (owns_ext HR.out.o2 (ext_lit _ _ _)) q2
                    have hr10 := (HR.out.ext (ext_lit _ _ _)).app2 q1 q2 q3
                    clear HR X2 q1 q2 q3
                    have HR := Lib.hid hr10
                    have X2 := Lib.hid hx10
                    clear hr10 hx10)
                  go_wp2
                  go_roundw
                  case rel => exact ⟨i + 1, cs ++ [yv], ws ++ [bl], by omega, by go_num, HR, Lib.hid (by rw [HSS.out]; exact ⟨by rw [List.length_append, List.length_append, HLN.out.1]; rfl, by rw [List.map_append, HLN.out.2, HBL.out]; rfl⟩), Lib.hid (by
                    intro c hc
                    rcases List.mem_append.1 hc with hc | hc
                    · exact HCS.out c hc
                    · rw [List.mem_singleton.1 hc]; exact HYV.out), X2⟩
                  case measure => simp [intOf]; omega
          · obtain rfl : i = l.length := by omega
            have hstk : d.stk = stkN l l.length := by unfold LedD.stk LedD.n; rw [KP.out.acc]
            have hlen : cs.length = d.stk.length := by rw [hstk]; exact HLN.out.1
            have hwe := HLN.out.2
            have hsl := stkN_len l l.length
            have hslen : d.stk.length ≤ 40 := by rw [hstk]; omega
            have hkl := KP.out.len
            obtain ⟨g1, g⟩ := close_good KP.out.ok (day := 1000) (by decide) HLC.out HLA.out hlen (fun c hc => by have := HCS.out c hc; omega) (fun i hi => by
              obtain ⟨a1, a2⟩ := (stk_mem d i).1 hi
              have := KP.out.bal i a1 a2
              have := KP.out.bal0 i a1 a2
              omega) (by omega)
            obtain ⟨R, hR⟩ : ∃ R, R = closeF 1000 d [] (closeP d cs) := ⟨_, rfl⟩
            rw [← hR] at g
            obtain ⟨d2, hd2⟩ : ∃ y : LedD, y = { R.1 with closed := 1000 } := ⟨_, rfl⟩
            have ok2 : LedOk d2 := by rw [hd2]; exact g.ok.closed (by decide)
            have hdl2 : d2.last ≤ 1000 := by rw [hd2]; exact g.last
            have hac2 : d2.acc = l := by rw [hd2]; exact g.acc.trans KP.out.acc
            have hcl2 : d2.closed = 1000 := by rw [hd2]
            have hen2 : d2.ents = R.1.ents := by rw [hd2]
            have hrow : R.2.1.length = cs.length := by
              rw [g.dif]
              have hz : (closeP d cs).length = d.stk.length := by unfold closeP; rw [List.length_zip, hlen, Nat.min_self]
              simp [hz, hlen]
            have hls := L.out.ext X2.out
            have hxw := X.out.tr X2.out
            have hcl := close_any B lb d m 1000 cs (.slice a1 cs.length c1) wr hls KP.out.ok (Nat.le_trans (Nat.le_of_lt (Nat.lt_of_le_of_lt L.out.blt L.out.led.lt)) X2.out.size) (Sl.of_owns HR.out.o1) (by unfold I64; decide) (fun x hx => by have := HCS.out x hx; unfold I64; omega) (fun b hb => by
              have h1 := HR.out.o1.lt b hb
              have h2 := L.out.led.lt
              refine ⟨by omega, fun h3 => ?_, h1.2⟩
              have h4 := (L.out.ents.lt b h3).2
              omega)
            have hfar : ∀ {v : Value} {n : Nat} {zs : List Value} (w' : World), wr.ownsRow w3.heap.size 3 1 v n zs → Only (fun k => k = lb ∨ m.ve.ownBlock = some k) wr w' → w'.ownsRow w3.heap.size 3 1 v n zs := fun w' ho hon => owns_only ho hon (fun b hb hk => by
              have h1 := (ho.lt b hb).1
              have h2 := L.out.led.lt
              rcases hk with hk | hk
              · omega
              · have h4 := (L.out.ents.lt b hk).2
                omega)
            have HGD : Hid (∀ e w', ClosePost wr B lb d m 1000 cs e w' → ∃ a3 c3 m3, e = .returned (.tuple #[.slice a3 cs.length c3, .int .i64 0]) ∧ LSt w' B lb d2 m3 ∧ Ints w' (.slice a3 cs.length c3) R.2.1 ∧ Ints w' (.slice a1 cs.length c1) cs ∧ Ints w' (.slice a2 ws.length c2) ws ∧ Ext w w') := fun e w' ⟨v, m3, k1, k2, _, _, _, k3⟩ => by
              rw [g1] at k1 k2
              rcases k2 with ⟨k4, _⟩ | ⟨_, k4, k5⟩
              · exact absurd rfl k4
              · rw [← hR] at k4 k5
                rw [← hd2] at k5
                rw [hrow] at k4
                obtain ⟨a3, c3, rfl⟩ := row_form k4
                exact ⟨a3, c3, m3, k1, k5, Sl.of_owns k4, Sl.of_owns (hfar w' HR.out.o1 k3), Sl.of_owns (hfar w' HR.out.o2 k3), hxw.then_only k3 (fun q hq => by
                  rcases hq with hq | hq
                  · rw [hq]; exact Nat.le_trans HBB.out L.out.blt
                  · exact Nat.le_trans HBB.out (L.out.ents.lt q hq).1)⟩
            have hbal2 : ∀ i : Nat, i < l.length → (l[i]?.map (·.stock)) = some true → (stkN l i).length < cs.length ∧ balU (i : Int) 1000 d2.ents = gI cs (stkN l i).length ∧ gI R.2.1 (stkN l i).length = gI cs (stkN l i).length - gI ws (stkN l i).length ∧ -5000000000000000 ≤ gI ws (stkN l i).length ∧ gI ws (stkN l i).length ≤ 5000000000000000 := fun i hi hs => by
              have hs2 : l[i].stock = true := by rw [List.getElem?_eq_getElem hi] at hs; simpa using hs
              have hs3 : (d.at' (i : Int)).stock = true := by rw [HAT.out i hi]; exact hs2
              have hin : i < d.n := by rw [HDN.out]; exact hi
              obtain ⟨c1, c2, c3⟩ := closes_at g hlen hin hs3
              rw [KP.out.acc] at c1 c2 c3
              have hk := stkN_at l i (by rw [List.getD_eq_getElem?_getD, List.getElem?_eq_getElem hi]; exact hs2) l.length hi
              have hw : ws[(stkN l i).length]? = some (balU (i : Int) 1000 d.ents) := by rw [hwe, List.getElem?_map, hk]; rfl
              have h2 := List.getElem?_eq_some_iff.1 hw
              have h3 : gI ws (stkN l i).length = balU (i : Int) 1000 d.ents := by rw [gI_get h2.1, h2.2]
              have h4 := KP.out.ok.balU (i : Int) 1000 d.ents.length
              rw [List.take_length] at h4
              refine ⟨c1, ?_, ?_, by rw [h3]; exact h4.1, by rw [h3]; exact h4.2⟩
              · rw [balU_last ok2 hdl2, hen2]; exact c2
              · rw [c3, h3, HBU.out]
            have hwl : ws.length = cs.length := by rw [hwe, List.length_map, HLN.out.1]
            have HCL := Lib.hid hcl
            have HB2 := Lib.hid hbal2
            have OK2 := Lib.hid ok2
            have AC2 := Lib.hid hac2
            have CL2 := Lib.hid hcl2
            have HROW := Lib.hid hrow
            have HWL := Lib.hid hwl
            clear hcl hbal2 ok2 hac2 hcl2 hrow hwl
            clear hfar g1 g hR hd2 hdl2 hen2 hls hxw hwe hstk hlen hsl hslen hkl hil HR HLN HCS X2
            go_upto_region 23 with (
              go_at_call 29
              refine HCL.out.mono ?_
              rintro e w5 hh
              obtain ⟨a3, c3, m3, rfl, hl5, hi1, hi2, hi3, hx5⟩ := HGD.out e w5 hh
              clear hh L X
              have L := Lib.hid hl5
              have ID := Lib.hid hi1
              have IC := Lib.hid hi2
              have IW := Lib.hid hi3
              have X := Lib.hid hx5
              clear hl5 hi1 hi2 hi3 hx5)
            clear HGD HCL
            go_upto_region 29 with (
              go_at_call 30
              refine (Closed_any B lb d2 m3 _ L.out).mono ?_
              rintro e w6 ⟨rfl, hx6⟩
              rw [CL2.out]
              replace L := Lib.hid (L.out.ext hx6)
              replace ID := Lib.hid (ID.out.ext hx6)
              replace IC := Lib.hid (IC.out.ext hx6)
              replace IW := Lib.hid (IW.out.ext hx6)
              replace X := Lib.hid (X.out.ext hx6)
              clear hx6)
            have hn2 : d2.n = l.length := by unfold LedD.n; rw [AC2.out]
            have HN2 := Lib.hid hn2
            clear hn2
            go_loopw [23, 24, 25] (fun v kv t wr => ∃ (i : Nat) (bs : List Int), i ≤ l.length ∧ t = .int .i64 i ∧ kv = .int .i64 ((stkN l i).length : Nat) ∧ Hid (wr.ownsRow w6.heap.size 3 1 v bs.length (bs.map (.int .i64))) ∧ Hid (bs = (List.range i).map (fun j : Nat => balU (j : Int) 1000 d2.ents)) ∧ Hid (Ext w6 wr)) (fun _ _ t _ => l.length - (intOf t).toNat)
            case atStart => exact ⟨0, [], Nat.zero_le _, rfl, rfl, World.ownsRow_nil _ _ _ _, Lib.hid rfl, Below.refl _ _⟩
            case round =>
              obtain ⟨i, bs, hi, rfl, rfl, HO, HAS, X2⟩ := hrel
              obtain ⟨a4, c4, rfl⟩ := row_form HO.out
              by_cases hil : i < l.length
              · skip
                as_aux_lemma =>
                  obtain ⟨b1, o1, rfl, hc1⟩ := HA.out.cells (by omega)
                  have e1 := fun W (h : Ext w W) => h.cellSome (hc1 i hil).2
                  have hss := stkN_succ l i
                  have hsl := stkN_len l i
                  have hg : l.getD i default = l[i] := by simp [List.getD, hil]
                  rw [hg] at hss
                  have hal2 : bs.length ≤ 40 := by rw [HAS.out, List.length_map, List.length_range]; omega
                  have hbe : balErr d2 (i : Int) 1000 = 0 := by unfold balErr; rw [if_pos ⟨by omega, by have := HN2.out; omega⟩, if_pos (by decide)]
                  have hbv : balV d2 (i : Int) 1000 = balU (i : Int) 1000 d2.ents := by unfold balV; rw [if_pos hbe]
                  have hbal := fun W (h : LSt W B lb d2 m3) => Balance_any B lb d2 m3 (i : Int) 1000 W h OK2.out
                  rw [hbe, hbv] at hbal
                  have hbr := OK2.out.balU (i : Int) 1000 d2.ents.length
                  rw [List.take_length] at hbr
                  have hb2 := HB2.out i hil
                  rw [List.getElem?_eq_getElem hil] at hb2
                  obtain ⟨bl, hble⟩ : ∃ y, y = balU (i : Int) 1000 d2.ents := ⟨_, rfl⟩
                  rw [← hble] at hbal hbr hb2
                  obtain ⟨y, hy⟩ : ∃ y, y = l[i] := ⟨_, rfl⟩
                  rw [← hy] at e1 hss hb2
                  obtain ⟨yg, ys⟩ := y
                  dsimp only at e1 hss hb2
                  obtain ⟨k, hk⟩ : ∃ k, k = (stkN l i).length := ⟨_, rfl⟩
                  rw [← hk] at hb2 hsl ⊢
                  obtain ⟨hbr1, hbr2⟩ := hbr
                  have m1 : (0:Int) ≤ (i:Int) := by omega
                  have m2 : (i:Int) < (l.length:Int) := by omega
                  have m3k : (0:Int) ≤ (k:Int) := by omega
                  have m4 : (k:Int) ≤ 40 := by omega
                  have hsk : (stkN l (i + 1)).length = k + (if ys = true then 1 else 0) := by rw [hss, List.length_append, ← hk]; cases ys <;> rfl
                  have HSK := Lib.hid hsk
                  have HBAL := Lib.hid hbal
                  have HBL := Lib.hid hble
                  clear hsk hbal hble
                  have HE1 := Lib.hid e1
                  clear hc1 hy hg hbe hbv hss hk e1
                  go_upto_region 35 with (first
                    | (go_at_call 28
                       refine (HBAL.out _ (L.out.ext X2.out)).mono ?_
                       rintro e w9 ⟨rfl, hx9⟩
                       replace HO := Lib.hid (owns_ext HO.out hx9)
                       replace X2 := Lib.hid (X2.out.tr hx9)
                       clear hx9)
                    | (at_builtin
                       refine wpList_app tInts rfl rfl rfl (owns_ext HO.out (ext_lit _ _ _)) rfl (Src.lit _ [.int .i64 bl] 1 1 rfl 3 1) (by simp [Value.oneCell']) (by omega) (Nat.le_trans X2.out.size (by simp)) ?_
                       rintro v' w10 q1 q2 q3
                       have hx10 := ext_grown (X2.out.tr (ext_lit _ _ _)) (owns_ext HO.out (ext_lit _ _ _)) q2
                       have ho10 : w10.ownsRow w6.heap.size 3 1 v' (bs ++ [bl]).length ((bs ++ [bl]).map (.int .i64)) := by rw [List.length_append, List.map_append]; exact q1
                       clear HO X2 q1 q2 q3
                       have HO := Lib.hid ho10
                       have X2 := Lib.hid hx10
                       clear ho10 hx10))
                  have e1 := HE1.out _ (X.out.tr X2.out)
                  have hbn : bs ++ [bl] = (List.range (i + 1)).map (fun j : Nat => balU (j : Int) 1000 d2.ents) := by rw [List.range_succ, List.map_append, HAS.out, HBL.out]; rfl
                  have HBN := Lib.hid hbn
                  clear hbn
                  cases ys with
                  | false =>
                    clear hb2
                    go_wp2
                    go_roundw
                    case rel => exact ⟨i + 1, bs ++ [bl], by omega, by go_num, by rw [HSK.out]; rfl, HO, HBN, X2⟩
                    case measure => simp [intOf]; omega
                  | true =>
                    obtain ⟨k1, k2, k3, k4, k5⟩ := hb2 rfl
                    clear hb2
                    obtain ⟨bc, oc, rfl, hcc⟩ := Ints.cells (IC.out.ext X2.out) (by omega)
                    obtain ⟨bw, ow, rfl, hcw⟩ := Ints.cells (IW.out.ext X2.out) (by have := HWL.out; omega)
                    obtain ⟨bd, od, rfl, hcd⟩ := Ints.cells (ID.out.ext X2.out) (by have := HROW.out; omega)
                    have f1 := hcc k k1
                    have f2 := hcw k (by have := HWL.out; omega)
                    have f3 := hcd k (by have := HROW.out; omega)
                    rw [← gI_get] at f1 f2 f3
                    rw [← k2] at f1 k3
                    rw [k3] at f3
                    obtain ⟨wv, hwv⟩ : ∃ y, y = gI ws k := ⟨_, rfl⟩
                    rw [← hwv] at f2 f3 k4 k5
                    have m5 : (k:Int) < (cs.length:Int) := by omega
                    have m6 : (k:Int) < (ws.length:Int) := by have := HWL.out; omega
                    clear hcc hcw hcd hwv k2 k3
                    go_upto_region 36 with (fail)
                    go_quiet (fail)
                    have hxq : Ext w10 (w10.drewN nq) := Ext.of_drewN _ _
                    replace HO := Lib.hid (owns_ext HO.out hxq)
                    replace X2 := Lib.hid (X2.out.tr hxq)
                    generalize w10.drewN nq = wq at *
                    clear hxq f1 f2 f3 e1
                    go_wp2
                    go_roundw
                    case rel => exact ⟨i + 1, bs ++ [bl], by omega, by go_num, by rw [HSK.out]; rfl, HO, HBN, X2⟩
                    case measure => simp [intOf]; omega
              · obtain rfl : i = l.length := by omega
                have hia : Ints wr (.slice a4 bs.length c4) bs := Sl.of_owns HO.out
                have hl6 := L.out.led.lt
                have hna : ∀ b, (Value.slice a4 bs.length c4).ownBlock = some b → b ≠ lb ∧ m3.ve.ownBlock ≠ some b := fun b hb => by
                  have h1 := (HO.out.lt b hb).1
                  refine ⟨by omega, fun h3 => ?_⟩
                  have h4 := (L.out.ents.lt b h3).2
                  omega
                have hnal : ∀ b, (Value.slice a4 bs.length c4).ownBlock = some b → b < wr.heap.size := fun b hb => (HO.out.lt b hb).2
                have NAL := Lib.hid hnal
                clear hnal
                have hls := L.out.ext X2.out
                have hxw := X.out.tr X2.out
                have hci : CsI l d2 d2 := ⟨OK2.out, AC2.out, CL2.out, fun i => rfl⟩
                have hasl : bs.length = l.length := by rw [HAS.out]; simp
                have IA := Lib.hid hia
                have NA := Lib.hid hna
                have LS := Lib.hid hls
                have XW := Lib.hid hxw
                have CI := Lib.hid hci
                have ASL := Lib.hid hasl
                clear hia hna hls hxw hci hasl
                clear HO X2 hl6 hil ID IC IW L X HB2 HROW HWL
                go_upto_region 40 with (fail)
                obtain ⟨w7, rfl⟩ : ∃ W, W = wr := ⟨wr, rfl⟩
                go_loopw [28] (fun t wr => ∃ (j : Nat) (d' : LedD) (m' : LMem), j ≤ ds2.length ∧ t = .int .i64 j ∧ Hid (LSt wr B lb d' m') ∧ Hid (CsI l d2 d') ∧ Hid (Ints wr (.slice a4 bs.length c4) bs) ∧ Hid (∀ b, (Value.slice a4 bs.length c4).ownBlock = some b → b ≠ lb ∧ m'.ve.ownBlock ≠ some b ∧ b < wr.heap.size) ∧ Hid (Ext w wr)) (fun t _ => ds2.length - (intOf t).toNat)
                case atStart => exact ⟨0, d2, m3, Nat.zero_le _, rfl, LS.out, CI.out, IA.out, Lib.hid (by intro b hb; exact ⟨(NA.out b hb).1, (NA.out b hb).2, NAL.out b hb⟩), XW.out⟩
                case round =>
                  clear LS CI IA NA XW NAL
                  obtain ⟨j, d', m', hj, rfl, LS, CI, IA, NA, XW⟩ := hrel
                  by_cases hjl : j < ds2.length
                  · skip
                    as_aux_lemma =>
                      obtain ⟨b5, o5, rfl, hc5⟩ := HD2.out.cells (by omega)
                      obtain ⟨_, e1, e2, e3, e4, _⟩ := hc5 j hjl
                      replace e1 := XW.out.cellSome e1
                      replace e2 := XW.out.cellSome e2
                      replace e3 := XW.out.cellSome e3
                      replace e4 := XW.out.cellSome e4
                      obtain ⟨f1, f2, f3, f4⟩ := (HD2.out.2 ds2[j] (List.getElem_mem hjl)).2.1
                      obtain ⟨xf, hxf⟩ : ∃ x, x = ds2[j].e.frm := ⟨_, rfl⟩
                      obtain ⟨xt, hxt⟩ : ∃ x, x = ds2[j].e.to := ⟨_, rfl⟩
                      obtain ⟨xa, hxa⟩ : ∃ x, x = ds2[j].e.amt := ⟨_, rfl⟩
                      obtain ⟨xd, hxd⟩ : ∃ x, x = ds2[j].e.day := ⟨_, rfl⟩
                      rw [← hxf] at e1 f1
                      rw [← hxt] at e2 f2
                      rw [← hxa] at e3 f3
                      rw [← hxd] at e4
                      have hlI : I64 (l.length : Int) := by unfold I64; omega
                      have hq1 := fun W => pick_any xf l.length W f1 hlI
                      have hq2 := fun W => pick_any xt l.length W f2 hlI
                      have hq3 := fun W => pick_any xa 1000 W f3 (by unfold I64; omega)
                      have r1 := pick_pos xf l.length (by omega)
                      have r2 := pick_pos xt l.length (by omega)
                      have r3 := pick_pos xa 1000 (by omega)
                      obtain ⟨p1, hp1⟩ : ∃ p, p = pick xf l.length := ⟨_, rfl⟩
                      obtain ⟨p2, hp2⟩ : ∃ p, p = pick xt l.length := ⟨_, rfl⟩
                      obtain ⟨p3, hp3⟩ : ∃ p, p = pick xa 1000 := ⟨_, rfl⟩
                      rw [← hp1] at hq1 r1
                      rw [← hp2] at hq2 r2
                      rw [← hp3] at hq3 r3
                      obtain ⟨r3a, r3b⟩ := r3
                      have j1 : (0:Int) ≤ (j:Int) := by omega
                      have j2 : (j:Int) < (ds2.length:Int) := by omega
                      have j3 : (j:Int) < 30 := by omega
                      have HQ1 := Lib.hid hq1
                      have HQ2 := Lib.hid hq2
                      have HQ3 := Lib.hid hq3
                      have R1 := Lib.hid r1
                      have R2 := Lib.hid r2
                      clear hq1 hq2 hq3 r1 r2
                      clear hp1 hp2 hp3 f1 f2 f3 f4 hlI hc5 hxf hxt hxa hxd
                      go_upto_region 43 with (first
                        | (with_reducible refine wpList_allocA (t := 57) rfl rfl Try.zeroValue57 ?_
                           rintro pb w8 hb3 hx3 hl3
                           have lpb : wr.heap.size ≤ pb := hl3
                           have PB := Lib.hid hb3
                           have LPB := Lib.hid lpb
                           have XZ := Lib.hid hx3
                           clear hb3 lpb hx3
                           clear hl3)
                        | (with_reducible refine wpList_storeK (cells := #[.int .i64 xf, .int .i64 xt, .int .i64 xa, .int .i64 xd]) rfl rfl PB.out ?_ ?_ ?_ ?_ ?_ ?_
                           · rfl
                           · rfl
                           · kernel_rfl
                           · rfl
                           · simp [Value.oneCell']
                           rintro w9 hb4 ho4
                           have hxz := XZ.out.then_only ho4 (fun q e => by rw [e]; exact LPB.out)
                           clear PB XZ ho4
                           have PB := Lib.hid hb4
                           have XZ := Lib.hid hxz
                           clear hb4 hxz))
                      clear e1 e2 e3 e4
                      simp only [Act.put, List.setIfInBounds_toArray, List.set_cons_zero, List.set_cons_succ]
                      go_cut [30] from 187 to 203 (fun v W => ∃ xb, v = .pointer (some ⟨xb, 0, none⟩) ∧ Hid (Ext w9 W ∧ w9.heap.size ≤ xb ∧ Blk W xb #[.int .i64 p1, .int .i64 p2, .int .i64 (1 + p3), .int .i64 (995 + (j : Int))] 60))
                      case first =>
                        as_aux_lemma =>
                          have hxd : Ext w9 w9.drew := (Below.refl _ w9).drew
                          have hs0 := PB.out.ext hxd
                          refine wp_region_K (fun W => W.cell? ⟨pb, 0, none⟩ = some (.int .i64 xf) ∧ W.cell? ⟨pb, 1, none⟩ = some (.int .i64 xt) ∧ W.cell? ⟨pb, 2, none⟩ = some (.int .i64 xa)) 19 (by kernel_rfl) ⟨hs0.cell 0, hs0.cell 1, hs0.cell 2⟩ (fun hHeld => ?_)
                          have PD := Lib.hid hs0
                          have XC := Lib.hid hxd
                          clear hs0 hxd
                          generalize w9.drew = wy at *
                          refine wpAnyK_takeL (i := 0) (v := ?_) rfl (by kernel_rfl) (by kernel_rfl) (by kernel_rfl) (by kernel_rfl) (fun _ _ _ h => h) (Or.inl ⟨by rfl, ?_⟩) hHeld ?_
                          rotate_left
                          · intro w hSw; (try dsimp only at hSw); go_simp; (try with_reducible rfl)
                          try simp only [Act.put, List.setIfInBounds_toArray, List.set_cons_zero, List.set_cons_succ]
                          refine wpAnyK_takeL (i := 1) (v := ?_) rfl (by kernel_rfl) (by kernel_rfl) (by kernel_rfl) (by kernel_rfl) (fun _ _ _ h => h) (Or.inl ⟨by rfl, ?_⟩) hHeld ?_
                          rotate_left
                          · intro w hSw; (try dsimp only at hSw); go_simp; (try with_reducible rfl)
                          try simp only [Act.put, List.setIfInBounds_toArray, List.set_cons_zero, List.set_cons_succ]
                          refine wpAnyK_takeL (i := 2) (v := ?_) rfl (by kernel_rfl) (by kernel_rfl) (by kernel_rfl) (by kernel_rfl) (fun _ _ _ h => h) (Or.inl ⟨by rfl, ?_⟩) hHeld ?_
                          rotate_left
                          · intro w hSw; (try dsimp only at hSw); go_simp; (try with_reducible rfl)
                          try simp only [Act.put, List.setIfInBounds_toArray, List.set_cons_zero, List.set_cons_succ]
                          refine wpAnyK_takeL (i := 3) (v := ?_) rfl (by kernel_rfl) (by kernel_rfl) (by kernel_rfl) (by kernel_rfl) (fun _ _ _ h => h) (Or.inl ⟨by rfl, ?_⟩) hHeld ?_
                          rotate_left
                          · intro w hSw; (try dsimp only at hSw); go_simp; (try with_reducible rfl)
                          try simp only [Act.put, List.setIfInBounds_toArray, List.set_cons_zero, List.set_cons_succ]
                          refine wpAnyK_takeL (i := 5) (v := ?_) rfl (by kernel_rfl) (by kernel_rfl) (by kernel_rfl) (by kernel_rfl) (fun _ _ _ h => h) (Or.inl ⟨by rfl, ?_⟩) hHeld ?_
                          rotate_left
                          · intro w hSw; (try dsimp only at hSw); go_simp; (try with_reducible rfl)
                          try simp only [Act.put, List.setIfInBounds_toArray, List.set_cons_zero, List.set_cons_succ]
                          refine wpAnyK_takeL (i := 6) (v := ?_) rfl (by kernel_rfl) (by kernel_rfl) (by kernel_rfl) (by kernel_rfl) (fun _ _ _ h => h) (Or.inl ⟨by rfl, ?_⟩) hHeld ?_
                          rotate_left
                          · intro w hSw; (try dsimp only at hSw); go_simp; (try with_reducible rfl)
                          try simp only [Act.put, List.setIfInBounds_toArray, List.set_cons_zero, List.set_cons_succ]
                          refine wpAnyK_takeL (i := 7) (v := ?_) rfl (by kernel_rfl) (by kernel_rfl) (by kernel_rfl) (by kernel_rfl) (fun _ _ _ h => h) (Or.inl ⟨by rfl, ?_⟩) hHeld ?_
                          rotate_left
                          · intro w hSw; (try dsimp only at hSw); go_simp; (try with_reducible rfl)
                          try simp only [Act.put, List.setIfInBounds_toArray, List.set_cons_zero, List.set_cons_succ]
                          refine wpAnyK_takeL (i := 8) (v := ?_) rfl (by kernel_rfl) (by kernel_rfl) (by kernel_rfl) (by kernel_rfl) (fun _ _ _ h => h) (Or.inl ⟨by rfl, ?_⟩) hHeld ?_
                          rotate_left
                          · intro w hSw; (try dsimp only at hSw); go_simp; (try with_reducible rfl)
                          try simp only [Act.put, List.setIfInBounds_toArray, List.set_cons_zero, List.set_cons_succ]
                          refine wpAnyK_takeL (i := 10) (v := ?_) rfl (by kernel_rfl) (by kernel_rfl) (by kernel_rfl) (by kernel_rfl) (fun _ _ _ h => h) (Or.inl ⟨by rfl, ?_⟩) hHeld ?_
                          rotate_left
                          · intro w hSw; (try dsimp only at hSw); go_simp; (try with_reducible rfl)
                          try simp only [Act.put, List.setIfInBounds_toArray, List.set_cons_zero, List.set_cons_succ]
                          refine wpAnyK_takeL (i := 11) (v := ?_) rfl (by kernel_rfl) (by kernel_rfl) (by kernel_rfl) (by kernel_rfl) (fun _ _ _ h => h) (Or.inl ⟨by rfl, ?_⟩) hHeld ?_
                          rotate_left
                          · intro w hSw; (try dsimp only at hSw); go_simp; (try with_reducible rfl)
                          try simp only [Act.put, List.setIfInBounds_toArray, List.set_cons_zero, List.set_cons_succ]
                          refine wpAnyK_takeL (i := 14) (v := ?_) rfl (by kernel_rfl) (by kernel_rfl) (by kernel_rfl) (by kernel_rfl) (fun _ _ _ h => h) (Or.inl ⟨by rfl, ?_⟩) hHeld ?_
                          rotate_left
                          · intro w hSw; (try dsimp only at hSw); go_simp; (try with_reducible rfl)
                          try simp only [Act.put, List.setIfInBounds_toArray, List.set_cons_zero, List.set_cons_succ]
                          refine wpAnyK_takeL (i := 15) (v := ?_) rfl (by kernel_rfl) (by kernel_rfl) (by kernel_rfl) (by kernel_rfl) (fun _ _ _ h => h) (Or.inl ⟨by rfl, ?_⟩) hHeld ?_
                          rotate_left
                          · intro w hSw; (try dsimp only at hSw); go_simp; (try with_reducible rfl)
                          try simp only [Act.put, List.setIfInBounds_toArray, List.set_cons_zero, List.set_cons_succ]
                          refine wpAnyK_ready (rs := [4, 17]) (by kernel_rfl) (by simp) ?_
                          refine AllReadyK.consL (i := 4) rfl (fun K hK => ?_) ?_
                          · refine step_call (vs := #[.int .i64 xf, .int .i64 (l.length : Int)]) rfl rfl rfl Try.func24 (by kernel_rfl) (by kernel_rfl) (HQ1.out _) ?_
                            rintro e w7 ⟨rfl, rfl⟩
                            refine ⟨_, rfl, ?_⟩
                            refine hK.out _ _ (fun _ => ⟨PD.out.cell 0, PD.out.cell 1, PD.out.cell 2⟩) (fun hHeld2 => ?_)
                            clear hK K
                            try clear hHeld
                            have hHeld := hHeld2 (by decide)
                            clear hHeld2
                            try simp only [Act.put, List.setIfInBounds_toArray, List.set_cons_zero, List.set_cons_succ]
                            refine wpAnyK_ready (rs := [9, 17]) (by kernel_rfl) (by simp) ?_
                            refine AllReadyK.consL (i := 9) rfl (fun K hK => ?_) ?_
                            · refine step_call (vs := #[.int .i64 xt, .int .i64 (l.length : Int)]) rfl rfl rfl Try.func24 (by kernel_rfl) (by kernel_rfl) (HQ2.out _) ?_
                              rintro e w7 ⟨rfl, rfl⟩
                              refine ⟨_, rfl, ?_⟩
                              refine hK.out _ _ (fun _ => ⟨PD.out.cell 0, PD.out.cell 1, PD.out.cell 2⟩) (fun hHeld2 => ?_)
                              clear hK K
                              try clear hHeld
                              have hHeld := hHeld2 (by decide)
                              clear hHeld2
                              try simp only [Act.put, List.setIfInBounds_toArray, List.set_cons_zero, List.set_cons_succ]
                              refine wpAnyK_ready (rs := [12, 17]) (by kernel_rfl) (by simp) ?_
                              refine AllReadyK.consL (i := 12) rfl (fun K hK => ?_) ?_
                              · refine step_call (vs := #[.int .i64 xa, .int .i64 1000]) rfl rfl rfl Try.func24 (by kernel_rfl) (by kernel_rfl) (HQ3.out _) ?_
                                rintro e w7 ⟨rfl, rfl⟩
                                refine ⟨_, rfl, ?_⟩
                                refine hK.out _ _ (fun _ => ⟨PD.out.cell 0, PD.out.cell 1, PD.out.cell 2⟩) (fun hHeld2 => ?_)
                                clear hK K
                                try clear hHeld
                                have hHeld := hHeld2 (by decide)
                                clear hHeld2
                                try simp only [Act.put, List.setIfInBounds_toArray, List.set_cons_zero, List.set_cons_succ]
                                refine wpAnyK_takeL (i := 13) (v := ?_) rfl (by kernel_rfl) (by kernel_rfl) (by kernel_rfl) (by kernel_rfl) (fun _ _ _ h => h) (Or.inl ⟨by rfl, ?_⟩) hHeld ?_
                                rotate_left
                                · intro w hSw; (try dsimp only at hSw); go_simp; (try with_reducible rfl)
                                try simp only [Act.put, List.setIfInBounds_toArray, List.set_cons_zero, List.set_cons_succ]
                                refine wpAnyK_takeL (i := 16) (v := ?_) rfl (by kernel_rfl) (by kernel_rfl) (by kernel_rfl) (by kernel_rfl) (fun _ _ _ h => h) (Or.inl ⟨by rfl, ?_⟩) hHeld ?_
                                rotate_left
                                · intro w hSw; (try dsimp only at hSw); go_simp; (try with_reducible rfl)
                                try simp only [Act.put, List.setIfInBounds_toArray, List.set_cons_zero, List.set_cons_succ]
                                refine wpAnyK_ready (rs := [17]) (by kernel_rfl) (by simp) ?_
                                refine AllReadyK.consL (i := 17) rfl (fun K hK => ?_) ?_
                                · refine step_allocA rfl rfl Try.zeroValue60 ?_
                                  intro xb wn hb hx hl
                                  have lxb := Nat.le_trans XC.out.size hl
                                  have npx : xb ≠ pb := by have := PD.out.lt; omega
                                  replace PD := Lib.hid (PD.out.ext hx)
                                  replace XC := Lib.hid (XC.out.ext hx)
                                  have XB := Lib.hid hb
                                  have LXB := Lib.hid lxb
                                  have NPX := Lib.hid npx
                                  clear hb lxb npx
                                  clear hx hl
                                  refine hK.out _ _ (fun _ => ⟨PD.out.cell 0, PD.out.cell 1, PD.out.cell 2⟩) (fun hHeld2 => ?_)
                                  clear hK K
                                  try clear hHeld
                                  have hHeld := hHeld2 (by decide)
                                  clear hHeld2
                                  try simp only [Act.put, List.setIfInBounds_toArray, List.set_cons_zero, List.set_cons_succ]
                                  refine wpAnyK_ready (rs := [18]) (by kernel_rfl) (by simp) ?_
                                  refine AllReadyK.consL (i := 18) rfl (fun K hK => ?_) ?_
                                  · refine step_storeK (cells := #[.int .i64 p1, .int .i64 p2, .int .i64 (IntKind.i64.wrap (1 + p3)), .int .i64 (IntKind.i64.wrap (995 + (j : Int)))]) rfl rfl XB.out rfl rfl (by kernel_rfl) rfl (by simp [Value.oneCell']) ?_
                                    intro wm hb ho
                                    have hx2 := XC.out.then_only ho (fun q e => by rw [e]; exact LXB.out)
                                    rw [i64_eq (1 + p3) (by omega), i64_eq (995 + (j : Int)) (by omega)] at hb
                                    have pd2 := PD.out.only ho (fun e => NPX.out e.symm)
                                    clear PD XC
                                    have PD := Lib.hid pd2
                                    have XC := Lib.hid hx2
                                    clear pd2 hx2
                                    clear ho
                                    refine hK.out _ _ (fun _ => ⟨PD.out.cell 0, PD.out.cell 1, PD.out.cell 2⟩) (fun hHeld2 => ?_)
                                    clear hK K
                                    try clear hHeld
                                    have hHeld := hHeld2 (by decide)
                                    clear hHeld2
                                    try simp only [Act.put, List.setIfInBounds_toArray, List.set_cons_zero, List.set_cons_succ]
                                    clear hHeld
                                    refine wpAnyK_done (by kernel_rfl) ?_ _
                                    go_wp2
                                    go_meet
                                    case rel => exact ⟨xb, rfl, XC.out, LXB.out, hb⟩
                                  · exact AllReadyK.nil
                                · exact AllReadyK.nil
                              refine AllReadyK.consL (i := 17) rfl (fun K hK => ?_) ?_
                              · refine step_allocA rfl rfl Try.zeroValue60 ?_
                                intro xb wn hb hx hl
                                have lxb := Nat.le_trans XC.out.size hl
                                have npx : xb ≠ pb := by have := PD.out.lt; omega
                                replace PD := Lib.hid (PD.out.ext hx)
                                replace XC := Lib.hid (XC.out.ext hx)
                                have XB := Lib.hid hb
                                have LXB := Lib.hid lxb
                                have NPX := Lib.hid npx
                                clear hb lxb npx
                                clear hx hl
                                refine hK.out _ _ (fun _ => ⟨PD.out.cell 0, PD.out.cell 1, PD.out.cell 2⟩) (fun hHeld2 => ?_)
                                clear hK K
                                try clear hHeld
                                have hHeld := hHeld2 (by decide)
                                clear hHeld2
                                try simp only [Act.put, List.setIfInBounds_toArray, List.set_cons_zero, List.set_cons_succ]
                                refine wpAnyK_ready (rs := [12]) (by kernel_rfl) (by simp) ?_
                                refine AllReadyK.consL (i := 12) rfl (fun K hK => ?_) ?_
                                · refine step_call (vs := #[.int .i64 xa, .int .i64 1000]) rfl rfl rfl Try.func24 (by kernel_rfl) (by kernel_rfl) (HQ3.out _) ?_
                                  rintro e w7 ⟨rfl, rfl⟩
                                  refine ⟨_, rfl, ?_⟩
                                  refine hK.out _ _ (fun _ => ⟨PD.out.cell 0, PD.out.cell 1, PD.out.cell 2⟩) (fun hHeld2 => ?_)
                                  clear hK K
                                  try clear hHeld
                                  have hHeld := hHeld2 (by decide)
                                  clear hHeld2
                                  try simp only [Act.put, List.setIfInBounds_toArray, List.set_cons_zero, List.set_cons_succ]
                                  refine wpAnyK_takeL (i := 13) (v := ?_) rfl (by kernel_rfl) (by kernel_rfl) (by kernel_rfl) (by kernel_rfl) (fun _ _ _ h => h) (Or.inl ⟨by rfl, ?_⟩) hHeld ?_
                                  rotate_left
                                  · intro w hSw; (try dsimp only at hSw); go_simp; (try with_reducible rfl)
                                  try simp only [Act.put, List.setIfInBounds_toArray, List.set_cons_zero, List.set_cons_succ]
                                  refine wpAnyK_takeL (i := 16) (v := ?_) rfl (by kernel_rfl) (by kernel_rfl) (by kernel_rfl) (by kernel_rfl) (fun _ _ _ h => h) (Or.inl ⟨by rfl, ?_⟩) hHeld ?_
                                  rotate_left
                                  · intro w hSw; (try dsimp only at hSw); go_simp; (try with_reducible rfl)
                                  try simp only [Act.put, List.setIfInBounds_toArray, List.set_cons_zero, List.set_cons_succ]
                                  refine wpAnyK_ready (rs := [18]) (by kernel_rfl) (by simp) ?_
                                  refine AllReadyK.consL (i := 18) rfl (fun K hK => ?_) ?_
                                  · refine step_storeK (cells := #[.int .i64 p1, .int .i64 p2, .int .i64 (IntKind.i64.wrap (1 + p3)), .int .i64 (IntKind.i64.wrap (995 + (j : Int)))]) rfl rfl XB.out rfl rfl (by kernel_rfl) rfl (by simp [Value.oneCell']) ?_
                                    intro wm hb ho
                                    have hx2 := XC.out.then_only ho (fun q e => by rw [e]; exact LXB.out)
                                    rw [i64_eq (1 + p3) (by omega), i64_eq (995 + (j : Int)) (by omega)] at hb
                                    have pd2 := PD.out.only ho (fun e => NPX.out e.symm)
                                    clear PD XC
                                    have PD := Lib.hid pd2
                                    have XC := Lib.hid hx2
                                    clear pd2 hx2
                                    clear ho
                                    refine hK.out _ _ (fun _ => ⟨PD.out.cell 0, PD.out.cell 1, PD.out.cell 2⟩) (fun hHeld2 => ?_)
                                    clear hK K
                                    try clear hHeld
                                    have hHeld := hHeld2 (by decide)
                                    clear hHeld2
                                    try simp only [Act.put, List.setIfInBounds_toArray, List.set_cons_zero, List.set_cons_succ]
                                    clear hHeld
                                    refine wpAnyK_done (by kernel_rfl) ?_ _
                                    go_wp2
                                    go_meet
                                    case rel => exact ⟨xb, rfl, XC.out, LXB.out, hb⟩
                                  · exact AllReadyK.nil
                                · exact AllReadyK.nil
                              · exact AllReadyK.nil
                            refine AllReadyK.consL (i := 17) rfl (fun K hK => ?_) ?_
                            · refine step_allocA rfl rfl Try.zeroValue60 ?_
                              intro xb wn hb hx hl
                              have lxb := Nat.le_trans XC.out.size hl
                              have npx : xb ≠ pb := by have := PD.out.lt; omega
                              replace PD := Lib.hid (PD.out.ext hx)
                              replace XC := Lib.hid (XC.out.ext hx)
                              have XB := Lib.hid hb
                              have LXB := Lib.hid lxb
                              have NPX := Lib.hid npx
                              clear hb lxb npx
                              clear hx hl
                              refine hK.out _ _ (fun _ => ⟨PD.out.cell 0, PD.out.cell 1, PD.out.cell 2⟩) (fun hHeld2 => ?_)
                              clear hK K
                              try clear hHeld
                              have hHeld := hHeld2 (by decide)
                              clear hHeld2
                              try simp only [Act.put, List.setIfInBounds_toArray, List.set_cons_zero, List.set_cons_succ]
                              refine wpAnyK_ready (rs := [9]) (by kernel_rfl) (by simp) ?_
                              refine AllReadyK.consL (i := 9) rfl (fun K hK => ?_) ?_
                              · refine step_call (vs := #[.int .i64 xt, .int .i64 (l.length : Int)]) rfl rfl rfl Try.func24 (by kernel_rfl) (by kernel_rfl) (HQ2.out _) ?_
                                rintro e w7 ⟨rfl, rfl⟩
                                refine ⟨_, rfl, ?_⟩
                                refine hK.out _ _ (fun _ => ⟨PD.out.cell 0, PD.out.cell 1, PD.out.cell 2⟩) (fun hHeld2 => ?_)
                                clear hK K
                                try clear hHeld
                                have hHeld := hHeld2 (by decide)
                                clear hHeld2
                                try simp only [Act.put, List.setIfInBounds_toArray, List.set_cons_zero, List.set_cons_succ]
                                refine wpAnyK_ready (rs := [12]) (by kernel_rfl) (by simp) ?_
                                refine AllReadyK.consL (i := 12) rfl (fun K hK => ?_) ?_
                                · refine step_call (vs := #[.int .i64 xa, .int .i64 1000]) rfl rfl rfl Try.func24 (by kernel_rfl) (by kernel_rfl) (HQ3.out _) ?_
                                  rintro e w7 ⟨rfl, rfl⟩
                                  refine ⟨_, rfl, ?_⟩
                                  refine hK.out _ _ (fun _ => ⟨PD.out.cell 0, PD.out.cell 1, PD.out.cell 2⟩) (fun hHeld2 => ?_)
                                  clear hK K
                                  try clear hHeld
                                  have hHeld := hHeld2 (by decide)
                                  clear hHeld2
                                  try simp only [Act.put, List.setIfInBounds_toArray, List.set_cons_zero, List.set_cons_succ]
                                  refine wpAnyK_takeL (i := 13) (v := ?_) rfl (by kernel_rfl) (by kernel_rfl) (by kernel_rfl) (by kernel_rfl) (fun _ _ _ h => h) (Or.inl ⟨by rfl, ?_⟩) hHeld ?_
                                  rotate_left
                                  · intro w hSw; (try dsimp only at hSw); go_simp; (try with_reducible rfl)
                                  try simp only [Act.put, List.setIfInBounds_toArray, List.set_cons_zero, List.set_cons_succ]
                                  refine wpAnyK_takeL (i := 16) (v := ?_) rfl (by kernel_rfl) (by kernel_rfl) (by kernel_rfl) (by kernel_rfl) (fun _ _ _ h => h) (Or.inl ⟨by rfl, ?_⟩) hHeld ?_
                                  rotate_left
                                  · intro w hSw; (try dsimp only at hSw); go_simp; (try with_reducible rfl)
                                  try simp only [Act.put, List.setIfInBounds_toArray, List.set_cons_zero, List.set_cons_succ]
                                  refine wpAnyK_ready (rs := [18]) (by kernel_rfl) (by simp) ?_
                                  refine AllReadyK.consL (i := 18) rfl (fun K hK => ?_) ?_
                                  · refine step_storeK (cells := #[.int .i64 p1, .int .i64 p2, .int .i64 (IntKind.i64.wrap (1 + p3)), .int .i64 (IntKind.i64.wrap (995 + (j : Int)))]) rfl rfl XB.out rfl rfl (by kernel_rfl) rfl (by simp [Value.oneCell']) ?_
                                    intro wm hb ho
                                    have hx2 := XC.out.then_only ho (fun q e => by rw [e]; exact LXB.out)
                                    rw [i64_eq (1 + p3) (by omega), i64_eq (995 + (j : Int)) (by omega)] at hb
                                    have pd2 := PD.out.only ho (fun e => NPX.out e.symm)
                                    clear PD XC
                                    have PD := Lib.hid pd2
                                    have XC := Lib.hid hx2
                                    clear pd2 hx2
                                    clear ho
                                    refine hK.out _ _ (fun _ => ⟨PD.out.cell 0, PD.out.cell 1, PD.out.cell 2⟩) (fun hHeld2 => ?_)
                                    clear hK K
                                    try clear hHeld
                                    have hHeld := hHeld2 (by decide)
                                    clear hHeld2
                                    try simp only [Act.put, List.setIfInBounds_toArray, List.set_cons_zero, List.set_cons_succ]
                                    clear hHeld
                                    refine wpAnyK_done (by kernel_rfl) ?_ _
                                    go_wp2
                                    go_meet
                                    case rel => exact ⟨xb, rfl, XC.out, LXB.out, hb⟩
                                  · exact AllReadyK.nil
                                · exact AllReadyK.nil
                              · exact AllReadyK.nil
                            · exact AllReadyK.nil
                          refine AllReadyK.consL (i := 17) rfl (fun K hK => ?_) ?_
                          · refine step_allocA rfl rfl Try.zeroValue60 ?_
                            intro xb wn hb hx hl
                            have lxb := Nat.le_trans XC.out.size hl
                            have npx : xb ≠ pb := by have := PD.out.lt; omega
                            replace PD := Lib.hid (PD.out.ext hx)
                            replace XC := Lib.hid (XC.out.ext hx)
                            have XB := Lib.hid hb
                            have LXB := Lib.hid lxb
                            have NPX := Lib.hid npx
                            clear hb lxb npx
                            clear hx hl
                            refine hK.out _ _ (fun _ => ⟨PD.out.cell 0, PD.out.cell 1, PD.out.cell 2⟩) (fun hHeld2 => ?_)
                            clear hK K
                            try clear hHeld
                            have hHeld := hHeld2 (by decide)
                            clear hHeld2
                            try simp only [Act.put, List.setIfInBounds_toArray, List.set_cons_zero, List.set_cons_succ]
                            refine wpAnyK_ready (rs := [4]) (by kernel_rfl) (by simp) ?_
                            refine AllReadyK.consL (i := 4) rfl (fun K hK => ?_) ?_
                            · refine step_call (vs := #[.int .i64 xf, .int .i64 (l.length : Int)]) rfl rfl rfl Try.func24 (by kernel_rfl) (by kernel_rfl) (HQ1.out _) ?_
                              rintro e w7 ⟨rfl, rfl⟩
                              refine ⟨_, rfl, ?_⟩
                              refine hK.out _ _ (fun _ => ⟨PD.out.cell 0, PD.out.cell 1, PD.out.cell 2⟩) (fun hHeld2 => ?_)
                              clear hK K
                              try clear hHeld
                              have hHeld := hHeld2 (by decide)
                              clear hHeld2
                              try simp only [Act.put, List.setIfInBounds_toArray, List.set_cons_zero, List.set_cons_succ]
                              refine wpAnyK_ready (rs := [9]) (by kernel_rfl) (by simp) ?_
                              refine AllReadyK.consL (i := 9) rfl (fun K hK => ?_) ?_
                              · refine step_call (vs := #[.int .i64 xt, .int .i64 (l.length : Int)]) rfl rfl rfl Try.func24 (by kernel_rfl) (by kernel_rfl) (HQ2.out _) ?_
                                rintro e w7 ⟨rfl, rfl⟩
                                refine ⟨_, rfl, ?_⟩
                                refine hK.out _ _ (fun _ => ⟨PD.out.cell 0, PD.out.cell 1, PD.out.cell 2⟩) (fun hHeld2 => ?_)
                                clear hK K
                                try clear hHeld
                                have hHeld := hHeld2 (by decide)
                                clear hHeld2
                                try simp only [Act.put, List.setIfInBounds_toArray, List.set_cons_zero, List.set_cons_succ]
                                refine wpAnyK_ready (rs := [12]) (by kernel_rfl) (by simp) ?_
                                refine AllReadyK.consL (i := 12) rfl (fun K hK => ?_) ?_
                                · refine step_call (vs := #[.int .i64 xa, .int .i64 1000]) rfl rfl rfl Try.func24 (by kernel_rfl) (by kernel_rfl) (HQ3.out _) ?_
                                  rintro e w7 ⟨rfl, rfl⟩
                                  refine ⟨_, rfl, ?_⟩
                                  refine hK.out _ _ (fun _ => ⟨PD.out.cell 0, PD.out.cell 1, PD.out.cell 2⟩) (fun hHeld2 => ?_)
                                  clear hK K
                                  try clear hHeld
                                  have hHeld := hHeld2 (by decide)
                                  clear hHeld2
                                  try simp only [Act.put, List.setIfInBounds_toArray, List.set_cons_zero, List.set_cons_succ]
                                  refine wpAnyK_takeL (i := 13) (v := ?_) rfl (by kernel_rfl) (by kernel_rfl) (by kernel_rfl) (by kernel_rfl) (fun _ _ _ h => h) (Or.inl ⟨by rfl, ?_⟩) hHeld ?_
                                  rotate_left
                                  · intro w hSw; (try dsimp only at hSw); go_simp; (try with_reducible rfl)
                                  try simp only [Act.put, List.setIfInBounds_toArray, List.set_cons_zero, List.set_cons_succ]
                                  refine wpAnyK_takeL (i := 16) (v := ?_) rfl (by kernel_rfl) (by kernel_rfl) (by kernel_rfl) (by kernel_rfl) (fun _ _ _ h => h) (Or.inl ⟨by rfl, ?_⟩) hHeld ?_
                                  rotate_left
                                  · intro w hSw; (try dsimp only at hSw); go_simp; (try with_reducible rfl)
                                  try simp only [Act.put, List.setIfInBounds_toArray, List.set_cons_zero, List.set_cons_succ]
                                  refine wpAnyK_ready (rs := [18]) (by kernel_rfl) (by simp) ?_
                                  refine AllReadyK.consL (i := 18) rfl (fun K hK => ?_) ?_
                                  · refine step_storeK (cells := #[.int .i64 p1, .int .i64 p2, .int .i64 (IntKind.i64.wrap (1 + p3)), .int .i64 (IntKind.i64.wrap (995 + (j : Int)))]) rfl rfl XB.out rfl rfl (by kernel_rfl) rfl (by simp [Value.oneCell']) ?_
                                    intro wm hb ho
                                    have hx2 := XC.out.then_only ho (fun q e => by rw [e]; exact LXB.out)
                                    rw [i64_eq (1 + p3) (by omega), i64_eq (995 + (j : Int)) (by omega)] at hb
                                    have pd2 := PD.out.only ho (fun e => NPX.out e.symm)
                                    clear PD XC
                                    have PD := Lib.hid pd2
                                    have XC := Lib.hid hx2
                                    clear pd2 hx2
                                    clear ho
                                    refine hK.out _ _ (fun _ => ⟨PD.out.cell 0, PD.out.cell 1, PD.out.cell 2⟩) (fun hHeld2 => ?_)
                                    clear hK K
                                    try clear hHeld
                                    have hHeld := hHeld2 (by decide)
                                    clear hHeld2
                                    try simp only [Act.put, List.setIfInBounds_toArray, List.set_cons_zero, List.set_cons_succ]
                                    clear hHeld
                                    refine wpAnyK_done (by kernel_rfl) ?_ _
                                    go_wp2
                                    go_meet
                                    case rel => exact ⟨xb, rfl, XC.out, LXB.out, hb⟩
                                  · exact AllReadyK.nil
                                · exact AllReadyK.nil
                              · exact AllReadyK.nil
                            · exact AllReadyK.nil
                          · exact AllReadyK.nil
                      case rest =>
                        obtain ⟨xb, rfl, HCUT⟩ := hcut
                        obtain ⟨hx4, hlx, hxb⟩ := HCUT.out
                        have hxz := XZ.out.tr hx4
                        have hxw := XW.out.tr hxz
                        have hlxb : wr.heap.size ≤ xb := Nat.le_trans XZ.out.size hlx
                        have hls := LS.out.ext hxz
                        have hia := IA.out.ext hxz
                        have x0 := hxb.cell 0
                        have x1 := hxb.cell 1
                        have x2 := hxb.cell 2
                        have x3 := hxb.cell 3
                        have hft : (⟨p1, p2, 1 + p3, 995 + (j : Int)⟩ : EntD).fits := by
                          have := R1.out
                          have := R2.out
                          refine ⟨?_, ?_, ?_, ?_⟩ <;> (unfold I64; dsimp only; omega)
                        have hBs : B ≤ wc.heap.size := Nat.le_of_lt (Nat.lt_of_le_of_lt hls.blt hls.led.lt)
                        have hpo := post_any B lb d' m' ⟨p1, p2, 1 + p3, 995 + (j : Int)⟩ wc hls CI.out.ok hBs hft
                        unfold entV at hpo
                        dsimp only at hpo
                        have hlv := hls.ents.lt
                        by_cases q0 : postErr d' ⟨p1, p2, 1 + p3, 995 + (j : Int)⟩ = 0
                        · obtain ⟨ci2, hd1000⟩ := CI.out.post q0
                          dsimp only at hd1000
                          have j4 : ¬ (995 + (j : Int) ≤ 1000) := by omega
                          have HGD : Hid (∀ e w', PostPost wc B lb d' m' ⟨p1, p2, 1 + p3, 995 + (j : Int)⟩ e w' → e = .returned (.int .i64 0) ∧ ∃ m4, LSt w' B lb (postD d' ⟨p1, p2, 1 + p3, 995 + (j : Int)⟩) m4 ∧ Ext w w' ∧ Ints w' (.slice a4 bs.length c4) bs ∧ (∀ b, (Value.slice a4 bs.length c4).ownBlock = some b → b ≠ lb ∧ m4.ve.ownBlock ≠ some b ∧ b < w'.heap.size) ∧ w'.cell? ⟨xb, 3, none⟩ = some (.int .i64 (995 + (j : Int)))) := fun e w' hh => by
                            obtain ⟨g1, v', g2, g4, g3⟩ := hh.good q0
                            refine ⟨g1, _, g2, hxw.then_only g3 (fun q hq => by
                              rcases hq with hq | hq
                              · rw [hq]; exact Nat.le_trans HBB.out hls.blt
                              · exact Nat.le_trans HBB.out (hlv q hq).1), Sl.only hia g3 (fun b hb hk => by
                              have h1 := NA.out b hb
                              rcases hk with hk | hk
                              · exact h1.1 hk
                              · exact h1.2.1 hk), fun b hb => ?_, g3.cell x3 (fun hk => by
                              rcases hk with hk | hk
                              · have hk2 : xb = lb := hk
                                have := LS.out.led.lt
                                omega
                              · have h1 := (LS.out.ents.lt xb hk).2
                                omega)⟩
                            have h1 := NA.out b hb
                            have h3 := Nat.le_trans hxz.size g3.size
                            refine ⟨h1.1, fun h2 => ?_, by omega⟩
                            rcases g4 with g4 | ⟨g, g5, g6⟩
                            · have h4 : v'.ownBlock = some b := h2
                              exact h1.2.1 (g4 ▸ h4)
                            · have h4 : v'.ownBlock = some b := h2
                              rw [g5] at h4
                              cases h4
                              have := hxz.size
                              omega
                          have HPO := Lib.hid hpo
                          have CI2 := Lib.hid ci2
                          clear hpo ci2
                          clear q0 hft hd1000
                          go_upto_region 45 with (
                            go_at_call 31
                            refine HPO.out.mono ?_
                            rintro e w6 hh
                            obtain ⟨rfl, m4, hl6, hx6, hi6, hn6, hc6⟩ := HGD.out e w6 hh
                            clear hh x0 x1 x2 x3
                            have L6 := Lib.hid hl6
                            have X6 := Lib.hid hx6
                            have I6 := Lib.hid hi6
                            have N6 := Lib.hid hn6
                            clear hl6 hx6 hi6 hn6)
                          go_wp2
                          go_roundw
                          case rel => exact ⟨j + 1, _, m4, by omega, by go_num, L6, CI2, I6, N6, X6⟩
                          case measure => simp [intOf]; omega
                        · have HGD : Hid (∀ e w', PostPost wc B lb d' m' ⟨p1, p2, 1 + p3, 995 + (j : Int)⟩ e w' → e = .returned (.int .i64 (postErr d' ⟨p1, p2, 1 + p3, 995 + (j : Int)⟩)) ∧ Ext wc w') := fun e w' hh => hh.bad q0
                          obtain ⟨er, her⟩ : ∃ er, er = postErr d' ⟨p1, p2, 1 + p3, 995 + (j : Int)⟩ := ⟨_, rfl⟩
                          rw [← her] at HGD
                          have t1 : (er == 0) = false := by rw [her]; simpa using q0
                          have HPO := Lib.hid hpo
                          clear hpo
                          clear q0 hft her
                          go_upto_region 45 with (
                            go_at_call 31
                            refine HPO.out.mono ?_
                            rintro e w6 hh
                            obtain ⟨rfl, hx6⟩ := HGD.out e w6 hh
                            clear hh x0 x1 x2 x3
                            have l6 := hls.ext hx6
                            have i6 := hia.ext hx6
                            have x6 := hxw.tr hx6
                            have n6 : ∀ b, (Value.slice a4 bs.length c4).ownBlock = some b → b ≠ lb ∧ m'.ve.ownBlock ≠ some b ∧ b < w6.heap.size := fun b hb => ⟨(NA.out b hb).1, (NA.out b hb).2.1, Nat.lt_of_lt_of_le (NA.out b hb).2.2 (Nat.le_trans hxz.size hx6.size)⟩
                            clear hx6
                            have L6 := Lib.hid l6
                            have X6 := Lib.hid x6
                            have I6 := Lib.hid i6
                            have N6 := Lib.hid n6
                            clear l6 x6 i6 n6)
                          go_wp2
                          go_roundw
                          case rel => exact ⟨j + 1, d', m', by omega, by go_num, L6, CI, I6, N6, X6⟩
                          case measure => simp [intOf]; omega
                  · obtain rfl : j = ds2.length := by omega
                    have hdn2 : d'.n = l.length := by unfold LedD.n; rw [CI.out.acc]
                    have HDN2 := Lib.hid hdn2
                    clear hdn2 hjl
                    go_upto_region 48 with (fail)
                    obtain ⟨w8, rfl⟩ : ∃ W, W = wr := ⟨wr, rfl⟩
                    go_loopw [32] (fun t wr => ∃ i : Nat, i ≤ l.length ∧ t = .int .i64 i ∧ Hid (Ext w8 wr)) (fun t _ => l.length - (intOf t).toNat)
                    case atStart => exact ⟨0, Nat.zero_le _, rfl, Below.refl _ _⟩
                    case round =>
                      obtain ⟨i, hi, rfl, X2⟩ := hrel
                      by_cases hil : i < l.length
                      · have hbe : balErr d' (i : Int) 1000 = 0 := by unfold balErr; rw [if_pos ⟨by omega, by have := HDN2.out; omega⟩, if_pos (by decide)]
                        have hbv : balV d' (i : Int) 1000 = balU (i : Int) 1000 d2.ents := by unfold balV; rw [if_pos hbe]; exact CI.out.bal i
                        have hbal := fun W (h : LSt W B lb d' m') => Balance_any B lb d' m' (i : Int) 1000 W h CI.out.ok
                        rw [hbe, hbv] at hbal
                        obtain ⟨b6, o6, rfl, hc6⟩ := Ints.cells (IA.out.ext X2.out) (by have := ASL.out; omega)
                        have e1 := hc6 i (by have := ASL.out; omega)
                        have hbi : bs[i]? = some (balU (i : Int) 1000 d2.ents) := by rw [HAS.out, List.getElem?_map, List.getElem?_range hil]; rfl
                        have hb2 := (List.getElem?_eq_some_iff.1 hbi).2
                        rw [hb2] at e1
                        obtain ⟨bl, hble⟩ : ∃ y, y = balU (i : Int) 1000 d2.ents := ⟨_, rfl⟩
                        rw [← hble] at hbal e1
                        have m1 : (0:Int) ≤ (i:Int) := by omega
                        have m2 : (i:Int) < (l.length:Int) := by omega
                        have m3b : (i:Int) < (bs.length:Int) := by have := ASL.out; omega
                        have HBAL := Lib.hid hbal
                        clear hbal
                        clear hc6 hbi hb2 hble hbe hbv
                        go_upto_region 51 with (
                          go_at_call 28
                          refine (HBAL.out _ (LS.out.ext X2.out)).mono ?_
                          rintro e w9 ⟨rfl, hx9⟩
                          replace e1 := hx9.cellSome e1
                          replace X2 := Lib.hid (X2.out.tr hx9)
                          clear hx9)
                        go_wp2
                        go_roundw
                        case rel => exact ⟨i + 1, by omega, by go_num, X2⟩
                        case measure => simp [intOf]; omega
                      · obtain rfl : i = l.length := by omega
                        have hx := XW.out.tr X2.out
                        clear X2 XW hil
                        have X := Lib.hid hx
                        clear hx
                        go_wp2_with (
                          (go_at_call 14
                           refine (awake_any _).mono ?_
                           rintro e w6 ⟨rfl, hx6⟩
                           replace X := Lib.hid (X.out.ext hx6)
                           clear hx6
                           )
                          )
                        go_ret
                        exact HP.out _ _ ⟨rfl, X.out⟩
      · have i2 : (30 : Int) < (ds2.length : Int) := by omega
        have i1 : (ds.length : Int) ≤ 30 := by omega
        clear hn2 hn her hc2
        go_enter Try.func6, Try.ntmps6
        go_wp2_with (first
          | (go_at_call 25
             refine (accounts_big l _ _ HA.out HB.out).mono ?_
             rintro e w1 ⟨v1, rfl, hx1, ho1⟩
             have h1 : AccIn w1 v1 l := StIn.of_owns accC_len ho1 hal
             clear ho1
             obtain ⟨a1, c1, rfl, _⟩ := h1.form
             have X := Lib.hid hx1
             have I1 := Lib.hid h1
             clear hx1 h1
             )
          | (go_at_call 26
             refine (check_any l _ _ I1.out).mono ?_
             rintro e w2 ⟨rfl, hx2⟩
             rw [HCE.out]
             replace X := Lib.hid (X.out.ext hx2)
             clear hx2)
          | (go_at_call 14
             refine (awake_any _).mono ?_
             rintro e w6 ⟨rfl, hx6⟩
             replace X := Lib.hid (X.out.ext hx6)
             clear hx6
             )
          )
        go_ret
        exact HP.out _ _ ⟨rfl, X.out⟩
    · have i2 : (30 : Int) < (ds.length : Int) := by omega
      clear hn her hc2
      go_enter Try.func6, Try.ntmps6
      go_wp2_with (first
        | (go_at_call 25
           refine (accounts_big l _ _ HA.out HB.out).mono ?_
           rintro e w1 ⟨v1, rfl, hx1, ho1⟩
           have h1 : AccIn w1 v1 l := StIn.of_owns accC_len ho1 hal
           clear ho1
           obtain ⟨a1, c1, rfl, _⟩ := h1.form
           have X := Lib.hid hx1
           have I1 := Lib.hid h1
           clear hx1 h1
           )
        | (go_at_call 26
           refine (check_any l _ _ I1.out).mono ?_
           rintro e w2 ⟨rfl, hx2⟩
           rw [HCE.out]
           replace X := Lib.hid (X.out.ext hx2)
           clear hx2)
        | (go_at_call 14
           refine (awake_any _).mono ?_
           rintro e w6 ⟨rfl, hx6⟩
           replace X := Lib.hid (X.out.ext hx6)
           clear hx6
           )
        )
      go_ret
      exact HP.out _ _ ⟨rfl, X.out⟩
  · have hne : (er != 0) = true := by simpa using hc
    clear hc her
    go_enter Try.func6, Try.ntmps6
    go_wp2_with (first
      | (go_at_call 25
         refine (accounts_big l _ _ HA.out HB.out).mono ?_
         rintro e w1 ⟨v1, rfl, hx1, ho1⟩
         have h1 : AccIn w1 v1 l := StIn.of_owns accC_len ho1 hal
         clear ho1
         obtain ⟨a1, c1, rfl, _⟩ := h1.form
         have X := Lib.hid hx1
         have I1 := Lib.hid h1
         clear hx1 h1
         )
      | (go_at_call 26
         refine (check_any l _ _ I1.out).mono ?_
         rintro e w2 ⟨rfl, hx2⟩
         rw [HCE.out]
         replace X := Lib.hid (X.out.ext hx2)
         clear hx2)
      | (go_at_call 14
         refine (awake_any _).mono ?_
         rintro e w6 ⟨rfl, hx6⟩
         replace X := Lib.hid (X.out.ext hx6)
         clear hx6
         )
      )
    go_ret
    exact HP.out _ _ ⟨rfl, X.out⟩
end Go.Proofs.Ytekplfbfkfiabaa
