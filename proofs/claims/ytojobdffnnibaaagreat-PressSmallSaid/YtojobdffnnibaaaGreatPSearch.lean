/- search. -/
import Derived.Test.YtojobdffnnibaaaGreatPSr0
import Derived.WalkMore
namespace Go.Proofs.YtojobdffnnibaaaGreat
open Go.RowKit Go.Shelf
set_option linter.unusedVariables false
set_option linter.unusedSimpArgs false
attribute [local go_sem] Oper.semAt_some
/-- Where the search ends. -/
def SearchPost (B pb : Nat) (w : World) (p : PressD) (s : StD) (vj : Value) (done : StD → Bool) (e : Ending) (w' : World) : Prop :=
 ∃ va, e = .returned (.tuple #[va, .int .i64 (searchD p done 40000 0 [⟨s, 0, 0, -1⟩]).2]) ∧ SrRow B w.heap.size pb p vj (searchD p done 40000 0 [⟨s, 0, 0, -1⟩]).1 va w' ∧ Ext w w'
set_option maxRecDepth 100000 in
set_option maxHeartbeats 4000000 in
theorem search_any {B mb pb ub c : Nat} {p : PressD} {s : StD} {vj : Value} (w : World) (h : MOw B w mb pb ub c p s vj) (hl : s.units.length ≤ 3) (hj : s.units.length = p.jam.length) (h0 : 0 < s.units.length)
 (df : Nat) (dcaps : Array Value) (done : StD → Bool) (hid : ∀ (a : Array Value) (w : World), (callFunc df a).run Tryz.prog w = .ok (.enter df a) w)
 (hdone : ∀ W m u c' t, Ext w W → MOw B W m pb u c' p t vj → t.units.length = s.units.length → Calls Tryz.prog df (#[.pointer (some ⟨m, 0, none⟩)] ++ dcaps) W fun e W' => e = .returned (.bool (done t)) ∧ Ext W W') :
 Calls Tryz.prog 33 #[.pointer (some ⟨mb, 0, none⟩), .func (.func df) #[] dcaps] w (SearchPost B pb w p s vj done) := by
 have hB : B ≤ w.heap.size := (by have := h.lm; have := h.bm.lt; omega); have hsit := fun W (k : Ext w W) => situation_any W (h.ext k) hl; have hsv : ∃ cs, sitV s = .agg cs := ⟨_, rfl⟩; obtain ⟨lit, hlit⟩ := keySit s; obtain ⟨sv, hsv2⟩ : ∃ v, sitV s = v := ⟨_, rfl⟩; rw [hsv2] at hsit hlit; obtain ⟨cs, hcs⟩ := hsv; rw [hsv2] at hcs; subst hcs; have H0 := Hd h; have HL := Hd hl; have HJ := Hd hj; have HP := Hd h0; have HB := Hd hB; have HSIT := Hd hsit; have HDONE := Hd hdone; have HSV := Hd hsv2; have HLIT := Hd hlit; clear h hl hj h0 hB hsit hdone hsv2 hlit; refine (callsIn_wide (n := 10)).1 (callsIn_of_wp_marks Tryz.func33 rfl trivial (wpIn_wide.2 ?_) rfl); simp only [Tryz.ntmps33, List.size_toArray, List.length_cons, List.length_nil, Nat.reduceAdd, Nat.reduceSub, Array.replicate_succ, Array.replicate_zero, List.push_toArray, List.append_toArray, List.nil_append, List.cons_append]; go_wp2
 go_step3
 go_wp2_with (first
  | (with_reducible refine wpList_alloc1 (t := 87) rfl rfl Tryz.zeroValue87 rfl ?_
     rintro ab w2 hx1 hx2 hx3; have hnb := newB w #[.pointer (some ⟨mb, 0, none⟩), .int .i64 0, .int .i64 0, .int .i64 (-1)] 93; have x2 : Ext w w2 := Ext.tr hnb.2.1 hx2; have lab : w.heap.size ≤ ab := Nat.le_trans hnb.2.1.size hx3
     have hrow : w2.ownsRow w.heap.size 93 4 (.slice (some ⟨w.heap.size, 0, none⟩) 1 1) 1 (stC mb ⟨s, 0, 0, -1⟩) :=
      ⟨rfl, .inr ⟨w.heap.size, 1, #[.pointer (some ⟨mb, 0, none⟩), .int .i64 0, .int .i64 0, .int .i64 (-1)], rfl, Nat.le_refl _, Blk.ext hnb.1 hx2, Nat.le_refl _, by unfold maxLen; omega, rfl, rfl⟩⟩
     have hnl : w.heap.size ≠ ab := fun e => (by have h1 := Blk.lt hnb.1; omega); clear hnb hx2 hx3; have AB := Hd hx1; have X1 := Hd x2; have LAB := Hd lab; have ROW := Hd hrow; have NRA := Hd hnl
     clear hx1 x2 lab hrow hnl)
  | (with_reducible refine wpList_setK (b := ab) (i := 0) (v := .slice (some ⟨w.heap.size, 0, none⟩) 1 1) rfl rfl AB.out ?_ ?_ ?_ ?_ ?_ ?_ ?_
     rfl; rfl
     · simp
     kernel_rfl; rfl; rfl; rintro w3 hb3 ho3; have x2 := X1.out.then_only ho3 (fun b (e : b = ab) => by rw [e]; exact LAB.out); have ho2 := owns_only ROW.out ho3 (fun b hb (e : b = ab) => by cases hb; exact NRA.out e); have hb4 : Blk w3 ab #[.slice (some ⟨w.heap.size, 0, none⟩) 1 1] 87 := hb3; clear AB X1 ROW hb3 ho3; have AB := Hd hb4; have X1 := Hd x2; have ROW := Hd ho2
     clear hb4 x2 ho2)
  | (with_reducible refine wpList_makeMapR (k := 105) rfl rfl ?_
     rintro gb w4 h1 h2 h3; have ab2 := AB.out.ext h2; have ho2 := owns_ext ROW.out h2; have hga : ab ≠ gb := fun e => (by have := AB.out.lt; omega); have hgr : w.heap.size ≠ gb := fun e => (by have := (ROW.out.lt w.heap.size rfl).2; omega); have lg : w.heap.size ≤ gb := Nat.le_trans X1.out.size h3; have x2 := X1.out.tr h2; clear AB ROW X1 h2 h3; have MR := Hd h1; have AB := Hd ab2; have ROW := Hd ho2; have X1 := Hd x2; have NGA := Hd hga; have NGR := Hd hgr; have LG := Hd lg
     clear h1 ab2 ho2 x2 hga hgr lg)
  | (go_at_call 43
     refine (HSIT.out _ X1.out).mono ?_; rintro e w5 ⟨rfl, hx⟩; have ab2 := AB.out.ext hx; have ho2 := owns_ext ROW.out hx; have mr2 := MR.out.ext hx; have x2 := X1.out.tr hx; clear AB ROW X1 MR hx HSIT; have MR := Hd mr2; have AB := Hd ab2; have ROW := Hd ho2; have X1 := Hd x2
     clear mr2 ab2 ho2 x2)
  | (refine wpList_insertR (t := 145) rfl rfl kSit uSeen MR.out rfl rfl rfl HLIT.out (by simp) ?_
     rintro w6 h1 h2; have ab2 := AB.out.only h2 NGA.out; have ho2 := owns_only ROW.out h2 (fun b hb (e : b = gb) => by cases hb; exact NGR.out e); have x2 := X1.out.then_only h2 (fun i (e : i = gb) => by rw [e]; exact LG.out)
     have h3 : MapR Tryz.prog 105 w6 gb (seenL [⟨s, 0, 0, -1⟩]) := by
      unfold seenL; rw [List.map_cons, List.map_nil, HSV.out]; exact h1
     clear AB ROW X1 MR h2 h1; have MR := Hd h3; have AB := Hd ab2; have ROW := Hd ho2; have X1 := Hd x2
     clear h3 ab2 ho2 x2)
  | (with_reducible refine wpList_alloc1 (t := 145) rfl rfl Tryz.zeroValue145 rfl ?_
     rintro qb w7 hx1 hx2 hx3; have ab2 := AB.out.ext hx2; have ho2 := owns_ext ROW.out hx2; have mr2 := MR.out.ext hx2; have x2 := X1.out.tr hx2; have hqa : ab ≠ qb := fun e => (by have := AB.out.lt; omega); have hqr : w.heap.size ≠ qb := fun e => (by have := (ROW.out.lt w.heap.size rfl).2; omega); have hqg : gb ≠ qb := fun e => (by have := MR.out.lt; omega); have lq : w.heap.size ≤ qb := Nat.le_trans X1.out.size hx3; clear AB ROW X1 MR hx2 hx3; have MR := Hd mr2; have AB := Hd ab2; have ROW := Hd ho2; have X1 := Hd x2; have QB := Hd hx1; have NQA := Hd hqa; have NQR := Hd hqr; have NQG := Hd hqg; have LQ := Hd lq
     clear mr2 ab2 ho2 x2 hx1 hqa hqr hqg lq)
  | (with_reducible refine wpList_setK (b := qb) (i := 0) (v := .map (some gb)) rfl rfl QB.out ?_ ?_ ?_ ?_ ?_ ?_ ?_
     rfl; rfl
     · simp
     kernel_rfl; rfl; rfl; rintro w8 hb8 ho8; have ab2 := AB.out.only ho8 NQA.out; have ho2 := owns_only ROW.out ho8 (fun b hb (e : b = qb) => by cases hb; exact NQR.out e); have mr2 := MR.out.only ho8 NQG.out; have x2 := X1.out.then_only ho8 (fun b (e : b = qb) => by rw [e]; exact LQ.out); have hb9 : Blk w8 qb #[.map (some gb)] 145 := hb8; clear AB ROW X1 MR QB hb8 ho8; have MR := Hd mr2; have AB := Hd ab2; have ROW := Hd ho2; have X1 := Hd x2; have QB := Hd hb9
     clear mr2 ab2 ho2 x2 hb9)
  | (with_reducible refine wpList_alloc1 (t := 3) rfl rfl Tryz.zeroValue3 rfl ?_
     rintro ib w9 hx1 hx2 hx3; have ab2 := AB.out.ext hx2; have ho2 := owns_ext ROW.out hx2; have mr2 := MR.out.ext hx2; have qb2 := QB.out.ext hx2; have x2 := X1.out.tr hx2; have li : w.heap.size ≤ ib := Nat.le_trans X1.out.size hx3; have hia : ab ≠ ib := fun e => (by have := AB.out.lt; omega); have hir : w.heap.size ≠ ib := fun e => (by have := (ROW.out.lt w.heap.size rfl).2; omega); have hig : gb ≠ ib := fun e => (by have := MR.out.lt; omega); have hiq : qb ≠ ib := fun e => (by have := QB.out.lt; omega); clear AB ROW X1 MR QB hx2 hx3; have MR := Hd mr2; have AB := Hd ab2; have ROW := Hd ho2; have X1 := Hd x2; have QB := Hd qb2; have IB := Hd hx1; have LI := Hd li; have NIA := Hd hia; have NIR := Hd hir; have NIG := Hd hig; have NIQ := Hd hiq
     clear mr2 ab2 ho2 x2 qb2 hx1 li hia hir hig hiq)
  | (with_reducible refine wpList_setK (b := ib) (i := 0) (v := .int .i64 0) rfl rfl IB.out ?_ ?_ ?_ ?_ ?_ ?_ ?_
     rfl; rfl
     · simp
     kernel_rfl; rfl; simp [Value.oneCell']; rintro w8 hb8 ho8; have ab2 := AB.out.only ho8 NIA.out; have ho2 := owns_only ROW.out ho8 (fun b hb (e : b = ib) => by cases hb; exact NIR.out e); have mr2 := MR.out.only ho8 NIG.out; have qb2 := QB.out.only ho8 NIQ.out; have x2 := X1.out.then_only ho8 (fun b (e : b = ib) => by rw [e]; exact LI.out); have hb9 : Blk w8 ib #[.int .i64 0] 3 := hb8; clear AB ROW X1 MR QB IB hb8 ho8; have MR := Hd mr2; have AB := Hd ab2; have ROW := Hd ho2; have X1 := Hd x2; have QB := Hd qb2; have IB := Hd hb9
     clear mr2 ab2 ho2 x2 qb2 hb9))
 go_wp2
 go_step3
 go_wp2_with (first
  | (with_reducible refine wpList_alloc1 (t := 87) rfl rfl Tryz.zeroValue87 rfl ?_
     rintro ab w2 hx1 hx2 hx3; have hnb := newB w #[.pointer (some ⟨mb, 0, none⟩), .int .i64 0, .int .i64 0, .int .i64 (-1)] 93; have x2 : Ext w w2 := Ext.tr hnb.2.1 hx2; have lab : w.heap.size ≤ ab := Nat.le_trans hnb.2.1.size hx3
     have hrow : w2.ownsRow w.heap.size 93 4 (.slice (some ⟨w.heap.size, 0, none⟩) 1 1) 1 (stC mb ⟨s, 0, 0, -1⟩) :=
      ⟨rfl, .inr ⟨w.heap.size, 1, #[.pointer (some ⟨mb, 0, none⟩), .int .i64 0, .int .i64 0, .int .i64 (-1)], rfl, Nat.le_refl _, Blk.ext hnb.1 hx2, Nat.le_refl _, by unfold maxLen; omega, rfl, rfl⟩⟩
     have hnl : w.heap.size ≠ ab := fun e => (by have h1 := Blk.lt hnb.1; omega); clear hnb hx2 hx3; have AB := Hd hx1; have X1 := Hd x2; have LAB := Hd lab; have ROW := Hd hrow; have NRA := Hd hnl
     clear hx1 x2 lab hrow hnl)
  | (with_reducible refine wpList_setK (b := ab) (i := 0) (v := .slice (some ⟨w.heap.size, 0, none⟩) 1 1) rfl rfl AB.out ?_ ?_ ?_ ?_ ?_ ?_ ?_
     rfl; rfl
     · simp
     kernel_rfl; rfl; rfl; rintro w3 hb3 ho3; have x2 := X1.out.then_only ho3 (fun b (e : b = ab) => by rw [e]; exact LAB.out); have ho2 := owns_only ROW.out ho3 (fun b hb (e : b = ab) => by cases hb; exact NRA.out e); have hb4 : Blk w3 ab #[.slice (some ⟨w.heap.size, 0, none⟩) 1 1] 87 := hb3; clear AB X1 ROW hb3 ho3; have AB := Hd hb4; have X1 := Hd x2; have ROW := Hd ho2
     clear hb4 x2 ho2)
  | (with_reducible refine wpList_makeMapR (k := 105) rfl rfl ?_
     rintro gb w4 h1 h2 h3; have ab2 := AB.out.ext h2; have ho2 := owns_ext ROW.out h2; have hga : ab ≠ gb := fun e => (by have := AB.out.lt; omega); have hgr : w.heap.size ≠ gb := fun e => (by have := (ROW.out.lt w.heap.size rfl).2; omega); have lg : w.heap.size ≤ gb := Nat.le_trans X1.out.size h3; have x2 := X1.out.tr h2; clear AB ROW X1 h2 h3; have MR := Hd h1; have AB := Hd ab2; have ROW := Hd ho2; have X1 := Hd x2; have NGA := Hd hga; have NGR := Hd hgr; have LG := Hd lg
     clear h1 ab2 ho2 x2 hga hgr lg)
  | (go_at_call 43
     refine (HSIT.out _ X1.out).mono ?_; rintro e w5 ⟨rfl, hx⟩; have ab2 := AB.out.ext hx; have ho2 := owns_ext ROW.out hx; have mr2 := MR.out.ext hx; have x2 := X1.out.tr hx; clear AB ROW X1 MR hx HSIT; have MR := Hd mr2; have AB := Hd ab2; have ROW := Hd ho2; have X1 := Hd x2
     clear mr2 ab2 ho2 x2)
  | (refine wpList_insertR (t := 145) rfl rfl kSit uSeen MR.out rfl rfl rfl HLIT.out (by simp) ?_
     rintro w6 h1 h2; have ab2 := AB.out.only h2 NGA.out; have ho2 := owns_only ROW.out h2 (fun b hb (e : b = gb) => by cases hb; exact NGR.out e); have x2 := X1.out.then_only h2 (fun i (e : i = gb) => by rw [e]; exact LG.out)
     have h3 : MapR Tryz.prog 105 w6 gb (seenL [⟨s, 0, 0, -1⟩]) := by
      unfold seenL; rw [List.map_cons, List.map_nil, HSV.out]; exact h1
     clear AB ROW X1 MR h2 h1; have MR := Hd h3; have AB := Hd ab2; have ROW := Hd ho2; have X1 := Hd x2
     clear h3 ab2 ho2 x2)
  | (with_reducible refine wpList_alloc1 (t := 145) rfl rfl Tryz.zeroValue145 rfl ?_
     rintro qb w7 hx1 hx2 hx3; have ab2 := AB.out.ext hx2; have ho2 := owns_ext ROW.out hx2; have mr2 := MR.out.ext hx2; have x2 := X1.out.tr hx2; have hqa : ab ≠ qb := fun e => (by have := AB.out.lt; omega); have hqr : w.heap.size ≠ qb := fun e => (by have := (ROW.out.lt w.heap.size rfl).2; omega); have hqg : gb ≠ qb := fun e => (by have := MR.out.lt; omega); have lq : w.heap.size ≤ qb := Nat.le_trans X1.out.size hx3; clear AB ROW X1 MR hx2 hx3; have MR := Hd mr2; have AB := Hd ab2; have ROW := Hd ho2; have X1 := Hd x2; have QB := Hd hx1; have NQA := Hd hqa; have NQR := Hd hqr; have NQG := Hd hqg; have LQ := Hd lq
     clear mr2 ab2 ho2 x2 hx1 hqa hqr hqg lq)
  | (with_reducible refine wpList_setK (b := qb) (i := 0) (v := .map (some gb)) rfl rfl QB.out ?_ ?_ ?_ ?_ ?_ ?_ ?_
     rfl; rfl
     · simp
     kernel_rfl; rfl; rfl; rintro w8 hb8 ho8; have ab2 := AB.out.only ho8 NQA.out; have ho2 := owns_only ROW.out ho8 (fun b hb (e : b = qb) => by cases hb; exact NQR.out e); have mr2 := MR.out.only ho8 NQG.out; have x2 := X1.out.then_only ho8 (fun b (e : b = qb) => by rw [e]; exact LQ.out); have hb9 : Blk w8 qb #[.map (some gb)] 145 := hb8; clear AB ROW X1 MR QB hb8 ho8; have MR := Hd mr2; have AB := Hd ab2; have ROW := Hd ho2; have X1 := Hd x2; have QB := Hd hb9
     clear mr2 ab2 ho2 x2 hb9)
  | (with_reducible refine wpList_alloc1 (t := 3) rfl rfl Tryz.zeroValue3 rfl ?_
     rintro ib w9 hx1 hx2 hx3; have ab2 := AB.out.ext hx2; have ho2 := owns_ext ROW.out hx2; have mr2 := MR.out.ext hx2; have qb2 := QB.out.ext hx2; have x2 := X1.out.tr hx2; have li : w.heap.size ≤ ib := Nat.le_trans X1.out.size hx3; have hia : ab ≠ ib := fun e => (by have := AB.out.lt; omega); have hir : w.heap.size ≠ ib := fun e => (by have := (ROW.out.lt w.heap.size rfl).2; omega); have hig : gb ≠ ib := fun e => (by have := MR.out.lt; omega); have hiq : qb ≠ ib := fun e => (by have := QB.out.lt; omega); clear AB ROW X1 MR QB hx2 hx3; have MR := Hd mr2; have AB := Hd ab2; have ROW := Hd ho2; have X1 := Hd x2; have QB := Hd qb2; have IB := Hd hx1; have LI := Hd li; have NIA := Hd hia; have NIR := Hd hir; have NIG := Hd hig; have NIQ := Hd hiq
     clear mr2 ab2 ho2 x2 qb2 hx1 li hia hir hig hiq)
  | (with_reducible refine wpList_setK (b := ib) (i := 0) (v := .int .i64 0) rfl rfl IB.out ?_ ?_ ?_ ?_ ?_ ?_ ?_
     rfl; rfl
     · simp
     kernel_rfl; rfl; simp [Value.oneCell']; rintro w8 hb8 ho8; have ab2 := AB.out.only ho8 NIA.out; have ho2 := owns_only ROW.out ho8 (fun b hb (e : b = ib) => by cases hb; exact NIR.out e); have mr2 := MR.out.only ho8 NIG.out; have qb2 := QB.out.only ho8 NIQ.out; have x2 := X1.out.then_only ho8 (fun b (e : b = ib) => by rw [e]; exact LI.out); have hb9 : Blk w8 ib #[.int .i64 0] 3 := hb8; clear AB ROW X1 MR QB IB hb8 ho8; have MR := Hd mr2; have AB := Hd ab2; have ROW := Hd ho2; have X1 := Hd x2; have QB := Hd qb2; have IB := Hd hb9
     clear mr2 ab2 ho2 x2 qb2 hb9))
 go_wp2
 refine wp_loop (fun a' w' => ∃ (i : Nat) (l : List StepD) (ib : Nat) (Ds : List Nat) (u10 u11 u12 u21 u22 u23 u24 u25 u26 u27 u28 u29 u30 u31 u32 u33 u34 u35 u36 u37 u38 u39 u40 u41 u42 u43 u44 u45 u46 u47 u48 u49 u50 u51 u52 u53 u54 u55 u56 u57 u58 : Value),
  Hid (SrI B w.heap.size pb ab qb gb s.units.length p vj w l w') ∧ Hid (Blk w' ib #[.int .i64 i] 3 ∧ w.heap.size ≤ ib) ∧ i ≤ l.length ∧ Hid (searchD p done (40000 - i) i l = searchD p done 40000 0 [⟨s, 0, 0, -1⟩]) ∧
  Hid (Ds.Nodup ∧ ∀ D ∈ Ds, (w.heap.size ≤ D ∧ gb < D) ∧ w'.heap[D]? = some (.deferred (some []))) ∧
  a' = { tmps := #[.pointer (some ⟨mb, 0, none⟩), .func (.func df) #[] dcaps, undef, undef, .slice none 0 0, .int .i64 0, .pointer (some ⟨ab, 0, none⟩), .pointer (some ⟨qb, 0, none⟩), .int .i64 (-1), .pointer (some ⟨ib, 0, none⟩), u10, u11, u12, .pointer (some ⟨mb, 0, none⟩), .agg #[.int .i64 0, .int .i64 0], .agg #[.pointer (some ⟨mb, 0, none⟩), .int .i64 0, .int .i64 0, .int .i64 (-1)], .slice (some ⟨w.heap.size, 0, none⟩) 1 1, .map (some gb), .pointer (some ⟨mb, 0, none⟩), .agg cs, .map (some gb), u21, u22, u23, u24, u25, u26, u27, u28, u29, u30, u31, u32, u33, u34, u35, u36, u37, u38, u39, u40, u41, u42, u43, u44, u45, u46, u47, u48, u49, u50, u51, u52, u53, u54, u55, u56, u57, u58, undef, undef], defers := marks Ds }) (fun a' w' => 40000 - ixOf a' w') ?_ ?_
 {
 refine ⟨0, [⟨s, 0, 0, -1⟩], ib, [], _, _, _, _, _, _, _, _, _, _, _, _, _, _, _, _, _, _, _, _, _, _, _, _, _, _, _, _, _, _, _, _, _, _, _, _, _, _, _, _, _, ?_, ⟨IB.out, LI.out⟩, Nat.zero_le _, rfl, ⟨List.nodup_nil, fun D hD => (by cases hD)⟩, rfl⟩; refine ⟨⟨_, AB.out, fun _ => mb, fun _ => ub, fun _ => c, ROW.out, fun j hj => ?_⟩, QB.out, MR.out, X1.out, ?_, ?_⟩
 · obtain rfl : j = 0 := by simpa using hj
   exact H0.out.ext X1.out
 · unfold Apart; simp
 · intro t ht
   rw [List.mem_singleton.1 ht]
 }
 {
 clear AB ROW X1 MR QB IB LI NIA NIR NIG NIQ; obtain ⟨wl, hwl⟩ : ∃ W, W = w8 := ⟨_, rfl⟩; clear hwl; intro a1 wr hinv; obtain ⟨i, l, ib, Ds, u10, u11, u12, u21, u22, u23, u24, u25, u26, u27, u28, u29, u30, u31, u32, u33, u34, u35, u36, u37, u38, u39, u40, u41, u42, u43, u44, u45, u46, u47, u48, u49, u50, u51, u52, u53, u54, u55, u56, u57, u58, HI, HIB, hil, HSE, HDS, rfl⟩ := hinv; dsimp only; have hil2 : l.length ≤ 32768 := HI.out.apart.len; obtain ⟨va, hab, hrow⟩ := HI.out.row; obtain ⟨f, fu, fc, hown, hms⟩ := hrow; obtain ⟨a3, c3, hva⟩ := row_form hown; subst hva; have ca := hab.cell 0; have ci := HIB.out.1.cell 0
 have hmu : ∀ tm : Act, tm.tmps[9]? = some (.pointer (some ⟨ib, 0, none⟩)) → ixOf tm wr = i := fun tm h => by
  unfold ixOf; rw [h]; simp [ci, intOf]
 obtain ⟨fuel, hfuel⟩ : ∃ g, 40000 - i = g + 1 := ⟨40000 - i - 1, by omega⟩; have hse := HSE.out; rw [hfuel] at hse; have HAB := Hd hab; have HOWN := Hd hown; have HMS := Hd hms; have HMU := Hd hmu; have HFU := Hd hfuel; have HSE2 := Hd hse; clear hab hown hms hmu hfuel hse
 by_cases hlt : i < l.length
 {
 skip
 as_aux_lemma =>
  have hse3 := fun h => searchD_hit (p := p) (done := done) (f := fuel) (i := i) (l := l) hlt h; have hse4 := fun h => searchD_on (p := p) (done := done) (f := fuel) (i := i) (l := l) hlt h; rw [HSE2.out] at hse3 hse4; obtain ⟨t, ht⟩ : ∃ t, l[i].at_ = t := ⟨_, rfl⟩; have hmi := HMS.out i hlt; have hun := HI.out.units l[i] (List.getElem_mem hlt); rw [ht] at hse3 hse4 hmi hun; obtain ⟨g, c4, hva, hcell⟩ := owns_pos HOWN.out (by omega)
  cases hva
  obtain ⟨m, hm⟩ : ∃ m, f i = m := ⟨_, rfl⟩; have cm := hcell (i * 4) (.pointer (some ⟨m, 0, none⟩)) (by have := stL_get f l i 0 hlt (by omega); rw [Nat.add_zero] at this; rw [this, hm]; rfl); rw [hm] at hmi; have hdn := HDONE.out wr m (fu i) (fc i) t HI.out.ext hmi hun; obtain ⟨dn, hdn2⟩ : ∃ b, done t = b := ⟨_, rfl⟩; rw [hdn2] at hdn hse3 hse4; have i1 : (0:Int) ≤ (i:Int) := (by omega); have i2 : (i:Int) < (l.length:Int) := (by omega); have HDN := Hd hdn; have HS3 := Hd hse3; have HS4 := Hd hse4; have HMI := Hd hmi; have HUN := Hd hun; have HT := Hd ht; clear hdn hse3 hse4 hmi hun ht; clear hm hcell hdn2
  cases dn
  {
  have hact := fun W => actions_any m W; have HACT := Hd hact; clear hact
  go_wp2_with (first
   | (refine HDN.out.mono ?_
      rintro e w9 ⟨rfl, hx9⟩; have ci2 := hx9.cellSome ci; have ca2 := hx9.cellSome ca; have cm2 := hx9.cellSome cm; clear ci ca cm HDN; have X9 := Hd hx9
      clear hx9)
   | (go_at_call 49
      refine (HACT.out _).mono ?_; rintro e wx ⟨xb, rfl, hxb, hlx, hx⟩; have x2 := X9.out.tr hx
      have nx : xb ≠ ib := fun e => by
       have h1 := HIB.out.1.lt; have h2 := X9.out.size; omega
      clear ci2 ca2 cm2 X9 hx HACT hlx; have XB := Hd hxb; have X9 := Hd x2; have NX := Hd nx
      clear hxb x2 nx))
  have hrn : RndI B w.heap.size pb ab qb gb s.units.length ib i m (fu i) (fc i) xb wx.heap.size Ds p t vj w l wx := ⟨HI.out.ext' X9.out, HIB.out.1.ext X9.out, ⟨HMI.out.ext X9.out, XB.out⟩, fun D hD => ⟨(HDS.out.2 D hD).1.2, Nat.lt_of_lt_of_le (Array.getElem?_eq_some_iff.1 (HDS.out.2 D hD).2).1 X9.out.size, X9.out.blk (HDS.out.2 D hD).2⟩⟩; have hnx : w.heap.size ≤ wx.heap.size := hrn.1.ext.size; have hgx : gb < wx.heap.size := hrn.1.map.lt; have hLG := LG.out; have HRN := Hd hrn; have HNX := Hd hnx; have HGX := Hd hgx; clear hrn hnx hgx
  refine (wpIn_wide (n := 10)).1 (wpIn_rangeLive (by decide) (gf := 77) (lb := #[.pointer (some ⟨xb, 0, none⟩)]) rfl (enters_of Tryz.func77 (by kernel_rfl) rfl)
   (actions_gives 9 (by decide) (B := B) (mb := m) (pb := pb) (ub := fu i) (c := fc i) (xb := xb) (p := p) (t := t) (vj := vj) i l wx (by rw [HUN.out]; exact HL.out) (by rw [HUN.out]; exact HJ.out) (by rw [HUN.out]; exact HP.out)) (Below.refl _ _) (fun _ => rfl)
   (RndI B w.heap.size pb ab qb gb s.units.length ib i m (fu i) (fc i) xb wx.heap.size Ds p t vj w) (RndI.own HB.out HNX.out HNX.out HGX.out) (fun _ _ h => h.2.2.1) HRN.out
   (fun l' x a1 W => RndI B w.heap.size pb ab qb gb s.units.length ib i m (fu i) (fc i) xb wx.heap.size Ds p t vj w l' W ∧ LiveY B pb p t vj x W ∧ ∃ (zb : Nat) (v0 v1 v2 v3 v4 v5 v8 v12 v13 v14 v15 v16 v17 v18 v19 v20 v21 v22 v23 v24 v25 v26 v27 v28 v29 v30 v31 v32 v33 v34 v35 v36 v37 v38 v39 v40 v41 v42 v43 v44 v45 v46 v47 v48 v49 v50 v51 v52 v53 v54 v55 v56 v57 v58 v59 v60 : Value), Blk W zb #[.int .i64 x.kind, .int .i64 x.unit] 72 ∧ a1 = { tmps := #[v0, v1, v2, v3, v4, v5, .pointer (some ⟨ab, 0, none⟩), .pointer (some ⟨qb, 0, none⟩), v8, .pointer (some ⟨ib, 0, none⟩), .pointer (some ⟨zb, 0, none⟩), .pointer (some ⟨x.mb, 0, none⟩), v12, v13, v14, v15, v16, v17, v18, v19, v20, v21, v22, v23, v24, v25, v26, v27, v28, v29, v30, v31, v32, v33, v34, v35, v36, v37, v38, v39, v40, v41, v42, v43, v44, v45, v46, v47, v48, v49, v50, v51, v52, v53, v54, v55, v56, v57, v58, v59, v60], defers := [] }) ?hAx ?assign ?body ?done)
  case hAx =>
   intro l' x; rintro a1 W W' row ⟨h1, h2, zb, v0, v1, v2, v3, v4, v5, v8, v12, v13, v14, v15, v16, v17, v18, v19, v20, v21, v22, v23, v24, v25, v26, v27, v28, v29, v30, v31, v32, v33, v34, v35, v36, v37, v38, v39, v40, v41, v42, v43, v44, v45, v46, v47, v48, v49, v50, v51, v52, v53, v54, v55, v56, v57, v58, v59, v60, hz, rfl⟩ hgr hr; refine ⟨RndI.own HB.out HNX.out HNX.out HGX.out l' W W' row h1 hgr hr, h2.only (grown_row hgr) (fun b e => ?_), zb, _, _, _, _, _, _, _, _, _, _, _, _, _, _, _, _, _, _, _, _, _, _, _, _, _, _, _, _, _, _, _, _, _, _, _, _, _, _, _, _, _, _, _, _, _, _, _, _, _, _, _, _, _, _, _, _, hz.only (grown_row hgr) (fun e => ?_), rfl⟩
   · obtain ⟨hle, o, h, hc⟩ := hr b e
     exact NotM.of_obj h (by have := HB.out; have := HNX.out; omega) hc
   {
   obtain ⟨_, o, h, hc⟩ := hr _ e; have h2 := hz.symm.trans h
   cases h2
   cases hc
   }
  case assign =>
   intro l0 l' x W K hi hr hK; have HI2 := Hd hi; have HR2 := Hd hr; have HK := Hd hK; clear hi hr hK; unfold YA.args; rw [foldl_two]; simp only [List.setIfInBounds_toArray, List.set_cons_zero, List.set_cons_succ]
   gi_wp2_with (first
    | (with_reducible refine wpListIn_allocK (t := 72) rfl rfl Tryz.zeroValue72 ?_
       rintro zb W1 hz1 hz2 hz3; have lz : W.heap.size ≤ zb := hz3; clear hz3; have ZB := Hd hz1; have XZ := Hd hz2; have LZ := Hd lz
       clear hz1 hz2 lz)
    | (with_reducible refine wpListIn_storeK (ty := 72) (cells := #[.int .i64 x.kind, .int .i64 x.unit]) rfl rfl ZB.out ?_ ?_ ?_ ?_ ?_ ?_
       rfl; rfl; kernel_rfl; rfl; simp [Value.oneCell']; rintro W2 hb2 ho2; have x2 := XZ.out.then_only ho2 (fun b (e : b = zb) => by rw [e]; exact LZ.out); clear XZ ZB ho2; have XZ := Hd x2; have ZB := Hd hb2
       clear x2 hb2))
   refine HK.out _ _ (keeps_ext XZ.out) ?_; exact ⟨HI2.out.ext' XZ.out, ⟨HR2.out.1.ext XZ.out, HR2.out.2⟩, zb, _, _, _, _, _, _, _, _, _, _, _, _, _, _, _, _, _, _, _, _, _, _, _, _, _, _, _, _, _, _, _, _, _, _, _, _, _, _, _, _, _, _, _, _, _, _, _, _, _, _, _, _, _, _, _, _, ZB.out, rfl⟩
  case body =>
   intro l1 l' x a1 W hax; obtain ⟨⟨hsr, hib2, hlm, hds⟩, hy1, zb, v0, v1, v2, v3, v4, v5, v8, v12, v13, v14, v15, v16, v17, v18, v19, v20, v21, v22, v23, v24, v25, v26, v27, v28, v29, v30, v31, v32, v33, v34, v35, v36, v37, v38, v39, v40, v41, v42, v43, v44, v45, v46, v47, v48, v49, v50, v51, v52, v53, v54, v55, v56, v57, v58, v59, v60, hz, rfl⟩ := hax; dsimp only; have hun2 : x.nx.units.length ≤ 3 := (by rw [hy1.2.2.1, actD_len, HUN.out]; exact HL.out); have hunN : x.nx.units.length = s.units.length := (by rw [hy1.2.2.1, actD_len, HUN.out]); have hsit2 := situation_any W hy1.1 hun2; obtain ⟨d0, d1, d2, d3, d4, d5, d6, d7, d8, d9, d10, d11, d12, d13, d14, hd⟩ := list15 (sitD x.nx) (sitD_len x.nx); have hsv2 : sitV x.nx = .agg #[.bool d0, .bool d1, .bool d2, .bool d3, .bool d4, .bool d5, .bool d6, .bool d7, .bool d8, .bool d9, .bool d10, .bool d11, .bool d12, .bool d13, .bool d14] := (by unfold sitV; rw [hd]; rfl); rw [hsv2] at hsit2; obtain ⟨lit2, hlit2⟩ := keySit x.nx; rw [hsv2] at hlit2; obtain ⟨va2, hab2, f2, fu2, fc2, hown2, hms2⟩ := hsr.row; obtain ⟨a5, c5, hva2⟩ := row_form hown2; subst hva2; have hlk := fun W' (hm : MapR Tryz.prog 105 W' gb (seenL l')) => seen_look hm x.nx; simp only [hsv2] at hlk; obtain ⟨kn, hkn⟩ : ∃ b, knownD l' x.nx = b := ⟨_, rfl⟩; rw [hkn] at hlk; have hlen := hsr.apart.len; obtain ⟨xk, xu, xm, xub, xc, xn⟩ := x; dsimp only at *; clear hd; have SR := Hd hsr; have IB2 := Hd hib2; have LM := Hd hlm; have DS := Hd hds; have LY := Hd hy1; have UN2 := Hd hunN; have SIT2 := Hd hsit2; have SV2 := Hd hsv2; have LIT2 := Hd hlit2; have AB2 := Hd hab2; have OWN2 := Hd hown2; have MS2 := Hd hms2; have LK := Hd hlk; have KN := Hd hkn; have ZB2 := Hd hz; have LEN := Hd hlen; clear hsr hib2 hlm hds hy1 hunN hsit2 hsv2 hlit2 hab2 hown2 hms2 hlk hkn hz hlen
   cases kn
   {
   gi_wp2_with (first
    | (refine ⟨trivial, ?_⟩
       gi_at_call 43
       refine (CallsIn.inRound l1 (callsIn_wide.2 SIT2.out)).mono ?_; rintro e W1 ⟨rfl, hx⟩; clear SIT2; have Y1 := Hd hx
       clear hx)
    | (with_reducible refine wpListIn_allocK (t := 105) (cs := f15) rfl rfl (fun w => by kernel_rfl) ?_
       rintro yb W2 hx1 hx2 hx3; have x2 := Y1.out.tr hx2; have ly : W.heap.size ≤ yb := Nat.le_trans Y1.out.size hx3; clear Y1 hx2 hx3; have Y1 := Hd x2; have YB := Hd hx1; have LYB := Hd ly
       clear x2 hx1 ly)
    | (with_reducible refine wpListIn_storeK (ty := 105) (cells := #[.bool d0, .bool d1, .bool d2, .bool d3, .bool d4, .bool d5, .bool d6, .bool d7, .bool d8, .bool d9, .bool d10, .bool d11, .bool d12, .bool d13, .bool d14]) rfl rfl YB.out ?_ ?_ ?_ ?_ ?_ ?_
       rfl; rfl; kernel_rfl; rfl; simp [Value.oneCell']; rintro W3 hb3 ho3; have x2 := Y1.out.then_only ho3 (fun b (e : b = yb) => by rw [e]; exact LYB.out); have cy := hb3.cell; have hm3 := SR.out.map.ext x2; have hlk3 := LK.out _ hm3; have hq3 := SR.out.seen.ext x2; have cq := hq3.cell 0; clear Y1 YB ho3 LK; have Y1 := Hd x2; have YB := Hd hb3; have HM3 := Hd hm3
       clear x2 hb3 hm3)
    | (refine wpListIn_updR (t := 145) (kx := .agg #[.bool d0, .bool d1, .bool d2, .bool d3, .bool d4, .bool d5, .bool d6, .bool d7, .bool d8, .bool d9, .bool d10, .bool d11, .bool d12, .bool d13, .bool d14]) (vx := .bool true) rfl rfl kSit uSeen HM3.out rfl rfl rfl LIT2.out ?_ ?_
       {
       intro y hy e; obtain ⟨t', ht', rfl⟩ := List.mem_map.1 hy; have h5 := (known_iff l' xn).2 ⟨t', ht', e.trans SV2.out.symm⟩; rw [KN.out] at h5
       cases h5
       }
       rintro W4 h1 h2; have hab3 := AB2.out.ext Y1.out; have ca4 := (hab3.only h2 (ne_map hab3 HM3.out)).cell 0; have hib3 := IB2.out.ext Y1.out; have ci4 := (hib3.only h2 (ne_map hib3 HM3.out)).cell 0; have hzb3 := ZB2.out.ext Y1.out; have cz4 := (hzb3.only h2 (ne_map hzb3 HM3.out)).cell; have hown3 := owns_ext OWN2.out Y1.out; have hown4 := owns_only hown3 h2 (fun b hb (e : b = gb) => by obtain ⟨_, cs', hb2⟩ := row_blk hown3 b hb; exact ne_map hb2 HM3.out e); have le4 := h2.size; clear hab3 hib3 hzb3 hown3 cq cy hlk3 hq3; have M4 := Hd h1; have O4 := Hd h2; have OWN4 := Hd hown4; have LE4 := Hd le4
       clear h1 h2 hown4 le4)
    | (refine wpListIn_appR (v := .slice a5 l'.length c5) tSteps rfl rfl rfl (owns_ext OWN4.out (newB _ _ _).2.1) (cs := stC xm ⟨xn, xk, xu, i⟩) (nb := W4.heap.size) rfl rfl (by omega) ?_ ?_ ?_ ?_ ?_
       · exact new_cells W4 (stC xm ⟨xn, xk, xu, i⟩) 93
       · intro u hu; simp [stC] at hu; rcases hu with rfl | rfl | rfl | rfl <;> rfl
       · have := LEN.out; omega
       · have h5 := SR.out.ext.size; have h6 := Y1.out.size; have h7 := LE4.out; have h8 := (newB W4 #[.pointer (some ⟨xm, 0, none⟩), .int .i64 xk, .int .i64 xu, .int .i64 i] 93).2.1.size; omega
       rintro v6 W6 h1 h2 h3; obtain ⟨a6, c6, hv6⟩ := row_form h1; subst hv6; have OWN6 := Hd h1; have G6 := Hd h2
       clear h1 h2)
    | (have hab6 : Blk W6 ab #[.slice a5 l'.length c5] 87 := by
        have hab3 := AB2.out.ext Y1.out; have hab5 := (hab3.only O4.out (ne_map hab3 HM3.out)).ext (newB W4 #[.pointer (some ⟨xm, 0, none⟩), .int .i64 xk, .int .i64 xu, .int .i64 i] 93).2.1; have hown5 := owns_ext OWN4.out (newB W4 #[.pointer (some ⟨xm, 0, none⟩), .int .i64 xk, .int .i64 xu, .int .i64 i] 93).2.1; exact hab5.only (grown_row G6.out) (fun e => by obtain ⟨_, cs', hb2⟩ := row_blk hown5 ab e; exact absurd (blk_ty hab5 hb2) (by decide))
       (with_reducible refine wpListIn_setK (b := ab) (i := 0) (v := .slice a6 (l'.length + 1) c6) rfl rfl hab6 ?_ ?_ ?_ ?_ ?_ ?_ ?_); rfl; rfl
       · simp
       kernel_rfl; rfl; rfl; rintro W7 hb7 ho7; have hb8 : Blk W7 ab #[.slice a6 (l'.length + 1) c6] 87 := hb7; clear hb7 hab6; have B7 := Hd hb8; have O7 := Hd ho7
       clear hb8 ho7))
   have hst : stepY i l' ⟨xk, xu, xm, xub, xc, xn⟩ = l' ++ [⟨xn, xk, xu, i⟩] := by
    have h5 := KN.out; unfold knownD at h5; unfold stepY; dsimp only; rw [h5]; rfl
   have hap := stepY_apart (i := i) LY.out.2.1 LY.out.2.2.1 SR.out.apart; rw [hst] at hap; rw [hst]; have hab3 := AB2.out.ext Y1.out; have hib3 := IB2.out.ext Y1.out; have hxb3 := LM.out.2.ext Y1.out; have hx5 := (newB W4 #[.pointer (some ⟨xm, 0, none⟩), .int .i64 xk, .int .i64 xu, .int .i64 i] 93).2.1
   obtain ⟨h1, mv, bv⟩ := SrI.add (x := ⟨xn, xk, xu, i⟩) (m := xm) (u := xub) (c := xc) (SR.out.ext' Y1.out) rfl HB.out LG.out LAB.out hab3 (owns_ext OWN2.out Y1.out) (fun j hj => (MS2.out j hj).ext Y1.out) (LY.out.1.ext Y1.out)
    (by dsimp only; rw [SV2.out]; exact M4.out) O4.out hx5 OWN6.out (grown_row G6.out) B7.out O7.out hap UN2.out
   have hown5 := owns_ext OWN4.out hx5; have hab5 := (hab3.only O4.out (ne_map hab3 HM3.out)).ext hx5; have hab6 : Blk W6 ab #[.slice a5 l'.length c5] 87 := hab5.only (grown_row G6.out) (fun e => by obtain ⟨_, cs', hb2⟩ := row_blk hown5 ab e; exact absurd (blk_ty hab5 hb2) (by decide)); have hkeep : KeepsFrom (gb + 1) W W7 := ((((keeps_ext Y1.out).trans (keeps_one O4.out (Nat.lt_succ_self _))).trans (keeps_ext hx5)).trans (keeps_cells (grown_row G6.out) (fun b hb => by obtain ⟨_, cs', hb2⟩ := row_blk hown5 b hb; exact ⟨cs', _, hb2⟩))).trans (keeps_cells O7.out (fun b e => by rw [e]; exact ⟨_, _, hab6⟩))
   exact ⟨keeps_mono hkeep HGX.out, h1, bv ib _ _ hib3 (by decide) (fun e => absurd (blk_ty hib3 (e ▸ hab3)) (by decide)),
    ⟨mv _ _ _ _ (LM.out.1.ext Y1.out), bv xb _ _ hxb3 (by decide) (fun e => absurd (blk_ty hxb3 (e ▸ hab3)) (by decide))⟩, DS.out.keeps hkeep⟩
   }
   {
   gi_wp2_with (first
    | (refine ⟨trivial, ?_⟩
       gi_at_call 43
       refine (CallsIn.inRound l1 (callsIn_wide.2 SIT2.out)).mono ?_; rintro e W1 ⟨rfl, hx⟩; clear SIT2; have Y1 := Hd hx
       clear hx)
    | (with_reducible refine wpListIn_allocK (t := 105) (cs := f15) rfl rfl (fun w => by kernel_rfl) ?_
       rintro yb W2 hx1 hx2 hx3; have x2 := Y1.out.tr hx2; have ly : W.heap.size ≤ yb := Nat.le_trans Y1.out.size hx3; clear Y1 hx2 hx3; have Y1 := Hd x2; have YB := Hd hx1; have LYB := Hd ly
       clear x2 hx1 ly)
    | (with_reducible refine wpListIn_storeK (ty := 105) (cells := #[.bool d0, .bool d1, .bool d2, .bool d3, .bool d4, .bool d5, .bool d6, .bool d7, .bool d8, .bool d9, .bool d10, .bool d11, .bool d12, .bool d13, .bool d14]) rfl rfl YB.out ?_ ?_ ?_ ?_ ?_ ?_
       rfl; rfl; kernel_rfl; rfl; simp [Value.oneCell']; rintro W3 hb3 ho3; have x2 := Y1.out.then_only ho3 (fun b (e : b = yb) => by rw [e]; exact LYB.out); have cy := hb3.cell; have hm3 := SR.out.map.ext x2; have hlk3 := LK.out _ hm3; have hq3 := SR.out.seen.ext x2; have cq := hq3.cell 0; clear Y1 YB ho3 LK; have Y1 := Hd x2; have YB := Hd hb3; have HM3 := Hd hm3
       clear x2 hb3 hm3))
   have hst : stepY i l' ⟨xk, xu, xm, xub, xc, xn⟩ = l' := by
    unfold stepY; exact if_pos KN.out
   rw [hst]; exact ⟨keeps_ext Y1.out, SR.out.ext' Y1.out, IB2.out.ext Y1.out, ⟨LM.out.1.ext Y1.out, LM.out.2.ext Y1.out⟩, DS.out.ext Y1.out⟩
   }
  case done =>
   intro D W hD hr hdd; obtain ⟨hsr, hib2, hlm, hds⟩ := hr; have ci2 := hib2.cell 0; have hsn := HS4.out (by first | rfl | trivial); have hD0 : w.heap.size ≤ D := Nat.le_trans HNX.out hD; have hib0 := HIB.out.2; clear hib2 hlm; have SR := Hd hsr; have DD := Hd hdd; have DL := Hd hD0; have HSN := Hd hsn; have DX := Hd hD; have DS := Hd hds; clear hsr hdd hD0 hsn hD hds
   go_wp2_with (first
    | (with_reducible refine wpList_alloc1 (t := 3) rfl rfl Tryz.zeroValue3 rfl ?_
       rintro nb w10 hx1 hx2 hx3; have ln : W.heap.size ≤ nb := hx3; clear ci2 hx3; have NB := Hd hx1; have Z1 := Hd hx2; have LN := Hd ln
       clear hx1 hx2 ln)
    | (with_reducible refine wpList_setK (b := nb) (i := 0) (v := .int .i64 i) rfl rfl NB.out ?_ ?_ ?_ ?_ ?_ ?_ ?_
       rfl; rfl
       · simp
       kernel_rfl; rfl; simp [Value.oneCell']; rintro w11 hb hox; have hb2 : Blk w11 nb #[.int .i64 i] 3 := hb; have x2 := Z1.out.then_only hox (fun b (e : b = nb) => by rw [e]; exact LN.out); have cn := hb2.cell 0; clear NB Z1 hb hox; have NB := Hd hb2; have Z1 := Hd x2
       clear hb2 x2)
    | (with_reducible refine wpList_setK (b := nb) (i := 0) (v := .int .i64 ((i:Int) + 1)) rfl rfl NB.out ?_ ?_ ?_ ?_ ?_ ?_ ?_
       rfl; rfl
       · simp
       kernel_rfl; rfl; simp [Value.oneCell']; rintro w12 hb hox; have hb2 : Blk w12 nb #[.int .i64 ((i:Int) + 1)] 3 := hb; have x2 := Z1.out.then_only hox (fun b (e : b = nb) => by rw [e]; exact LN.out); clear NB Z1 hb hox cn; have NB := Hd hb2; have Z1 := Hd x2
       clear hb2 x2))
   have hl2 := expandD_le p i t l; have hnw : w.heap.size ≤ nb := Nat.le_trans SR.out.ext.size LN.out; have hnb : Blk w12 nb #[.int .i64 ((i + 1 : Nat) : Int)] 3 := NB.out; have hgd : gb < D := Nat.lt_of_lt_of_le HGX.out DX.out; have hfu : 40000 - (i + 1) = fuel := (by have := HFU.out; omega); refine ⟨⟨i + 1, expandD p i t l, nb, D :: Ds, _, _, _, _, _, _, _, _, _, _, _, _, _, _, _, _, _, _, _, _, _, _, _, _, _, _, _, _, _, _, _, _, _, _, _, _, _, _, _, _, _, SR.out.ext' Z1.out, ⟨hnb, hnw⟩, by omega, by rw [hfu]; exact HSN.out.symm, ⟨?_, ?_⟩, rfl⟩, ?_⟩
   { rw [List.nodup_cons]; refine ⟨fun hm => ?_, HDS.out.1⟩; have h5 := (DS.out D hm).2.1; have h6 := DX.out; omega }
   {
   intro D' hD'
   rcases List.mem_cons.1 hD' with rfl | hD'
   · exact ⟨⟨DL.out, hgd⟩, Z1.out.blk DD.out⟩
   · exact ⟨(HDS.out.2 D' hD').1, Z1.out.blk (DS.out D' hD').2.2⟩
   }
   · exact lt_meas (x := nb) (y := ib) (i := i) rfl (hnb.cell 0) rfl (HIB.out.1.cell 0) (by omega)
  }
  {
  skip
  go_wp2_with (
   refine HDN.out.mono ?_; rintro e w9 ⟨rfl, hx9⟩; have ci2 := hx9.cellSome ci; have ca2 := hx9.cellSome ca; clear ci ca cm; have hi9 := HI.out.ext' hx9; have hd9 : ∀ D ∈ Ds, w.heap.size ≤ D ∧ w9.heap[D]? = some (.deferred (some [])) := fun D hD => ⟨(HDS.out.2 D hD).1.1, hx9.blk (HDS.out.2 D hD).2⟩; have ho9 := owns_ext HOWN.out hx9; have hm9 := fun j (h : j < l.length) => (HMS.out j h).ext hx9; clear hx9; have HI9 := Hd hi9; have HD9 := Hd hd9; have HO9 := Hd ho9; have HM9 := Hd hm9
   clear hi9 hd9 ho9 hm9)
  have hend := HS3.out (by simp); refine leaves_marks Ds w9 HDS.out.1 (fun D hD => (HD9.out D hD).2) (fun w' hw' => ?_); refine ⟨.tuple #[.slice (some ⟨g, 0, none⟩) l.length c3, .int .i64 i], by simp [results, Tryz.f33, go_sem], ⟨_, by rw [hend], ?_, HI9.out.ext.then_only hw' (fun D hD => (HD9.out D hD).1)⟩⟩; rw [hend]; refine SrRow.only ⟨f, fu, fc, HO9.out, HM9.out⟩ hw' (fun D hD => NotM.of_obj (HD9.out D hD).2 (Nat.le_trans HB.out (HD9.out D hD).1) rfl) (fun b hb hD => ?_)
  rcases HO9.out.2 with ⟨hv, _⟩ | ⟨g, cap, cur, hv, _, hgb, _⟩
  · rw [hv] at hb; cases hb
  {
  rw [hv] at hb; cases hb; have h2 := (HD9.out _ hD).2.symm.trans hgb
  cases h2
  }
  }
 }
 {
 skip; have hend := searchD_end (p := p) (done := done) (f := fuel) (i := i) (l := l) (by omega); rw [HSE2.out] at hend; have i2 : ¬ (i:Int) < (l.length:Int) := (by omega); have HEND := Hd hend; clear hend; go_wp2; refine leaves_marks Ds wr HDS.out.1 (fun D hD => (HDS.out.2 D hD).2) (fun w' hw' => ?_); refine ⟨.tuple #[.slice a3 l.length c3, .int .i64 (-1)], by simp [results, Tryz.f33, go_sem], ⟨_, by rw [HEND.out], ?_, HI.out.ext.then_only hw' (fun D hD => (HDS.out.2 D hD).1.1)⟩⟩; rw [HEND.out]; refine SrRow.only ⟨f, fu, fc, HOWN.out, HMS.out⟩ hw' (fun D hD => NotM.of_obj (HDS.out.2 D hD).2 (Nat.le_trans HB.out (HDS.out.2 D hD).1.1) rfl) (fun b hb hD => ?_)
 rcases HOWN.out.2 with ⟨hv, _⟩ | ⟨g, cap, cur, hv, _, hgb, _⟩
 · rw [hv] at hb; cases hb
 {
 rw [hv] at hb; cases hb; have h2 := (HDS.out.2 _ hD).2.symm.trans hgb
 cases h2
 }
 }
 }
end Go.Proofs.YtojobdffnnibaaaGreat