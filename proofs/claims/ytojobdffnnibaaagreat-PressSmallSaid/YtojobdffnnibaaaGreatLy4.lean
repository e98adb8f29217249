/- The reference's search: the walk of Layers. -/
import Derived.Test.YtojobdffnnibaaaGreatJ12
import Derived.Test.YtojobdffnnibaaaGreatActsD
import Derived.Test.YtojobdffnnibaaaGreatJ13
import Derived.Deep.CutBlock
namespace Go.Proofs.YtojobdffnnibaaaGreat
open Go.RowKit
set_option linter.unusedVariables false
set_option linter.unusedSimpArgs false
theorem row_cells {w : World} {B : Nat} {e : TypeId} {size : Nat} {a : Option Addr} {n c : Nat} {xs : List Value} (h : w.ownsRow B e size (.slice a n c) n xs) (hn : 0 < n) : ∃ g o, a = some ⟨g, o, none⟩ ∧ ∀ j u, xs[j]? = some u → w.cell? ⟨g, o + j, none⟩ = some u := by
 obtain ⟨g, c', hv, hc⟩ := owns_pos h hn
 cases hv
 exact ⟨g, 0, rfl, fun j u hj => by rw [Nat.zero_add]; exact hc j u hj⟩
theorem closed_stop {p : PressD} {s : StD} (hd : 0 ≤ s.drive ∧ s.drive ≤ 2) {i : Nat} (h1 : ∀ m, m < i → m < (roundL p s m).length) (h2 : (roundL p s i).length ≤ i) : closedL p s = roundL p s i := by
 obtain ⟨e, hlt⟩ := closed_round (p := p) hd; obtain ⟨n, hn⟩ : ∃ n, (closedL p s).length = n := ⟨_, rfl⟩; have hnl : (roundL p s n).length = n := (by rw [← hn, ← e]); rw [hn] at hlt e
 rcases Nat.lt_trichotomy i n with h | h | h
 · have := hlt i h; omega
 · rw [h]; exact e
 · have := h1 n h; omega
theorem fold_succ {p : PressD} {i n k : Nat} {t : StD} {l : List StepD} (hk : k < (kindsR n).length) : ((kindsR n).take (k + 1)).foldl (addStep p i t) l = addStep p i t (((kindsR n).take k).foldl (addStep p i t) l) (kindsR n)[k] := by
 rw [List.take_succ_eq_append_getElem hk, List.foldl_append]; rfl
theorem seen_any {l : List StepD} {c : Nat} {nx : StD} (h : codeD nx = (c : Int)) : seenC l c = l.any fun x => codeD x.at_ == codeD nx := by
 unfold seenC; rw [h]
theorem acK_get (l : List (Int × Nat)) (k : Nat) (h : k < l.length) : (acL (kI l))[k * 2]? = some (.int .i64 l[k].1) ∧ (acL (kI l))[k * 2 + 1]? = some (.int .i64 (l[k].2 : Int)) := by
 have hk : k < (kI l).length := (by unfold kI; rw [List.length_map]; exact h); have e : (kI l)[k] = (l[k].1, (l[k].2 : Int)) := List.getElem_map _; have h0 := acL_get (kI l) k 0 hk (by omega); have h1 := acL_get (kI l) k 1 hk (by omega); rw [e] at h0 h1; exact ⟨h0, h1⟩
theorem acL_one (l : List (Int × Int)) : ∀ u ∈ acL l, u.oneCell' = true := by
 intro u hu; unfold acL at hu; obtain ⟨x, _, hx⟩ := List.mem_flatMap.1 hu; simp [acC] at hx
 rcases hx with rfl | rfl <;> rfl
theorem backD_cut (l : List StepD) : ∀ (f : Nat) (i : Int), (backD l f i).length ≤ f
 | 0, _ => by unfold backD; simp
 | f + 1, i => by
   unfold backD
   split
   · simp
   {
   rename_i t _
   split
   · simp
   · have := backD_cut l f t.from_
     rw [List.length_cons]; omega
   }
theorem byL_len (l : List StepD) (j : Nat) : (byL l j).length ≤ 40000 := by unfold byL; rw [List.length_reverse]; exact backD_cut _ _ _
theorem owns_pt {w : World} {B : Nat} {e : TypeId} {size : Nat} {g o n c : Nat} {xs : List Value} (h : w.ownsRow B e size (.slice (some ⟨g, o, none⟩) n c) n xs) (j : Nat) (u : Value) (hj : xs[j]? = some u) : w.cell? ⟨g, o + j, none⟩ = some u := by
 have h0 : o = 0 := by
  rcases h.2 with ⟨hv, _⟩ | ⟨g0, cap, cur, hv, _⟩
  · cases hv
  · cases hv; rfl
 subst h0; rw [Nat.zero_add]; exact owns_at h rfl j u hj
section
variable {P : Program} {w : World} {ops : Array Oper} {rest : List Oper} {o : Oper} {a : Act} {Q : Exit → Act → World → Prop}
theorem wpList_buildR {t e : TypeId} {z : Value} {size bytes : Nat} (T : SliceT P t e z size bytes) (hgd : o.guard = none) {x : Operand} (ho : o.op = .buildSlice t 1 #[(0, x)]) {v : Value} (hx : a.eval x = v) (cs : List Value)
 (hsm : size ≤ 1000) (hv : v.cells.toList = cs) (hcs : cs.length = size)
 (h : ∀ v' w', Ext w w' → w'.ownsRow w.heap.size e size v' 1 cs → wpList P ops Q rest (a.put o.dst v') w') : wpList P ops Q (o :: rest) a w := by
 obtain ⟨ht, hinfo, hzs, hpos, hbyt⟩ := T; obtain ⟨i, hi, hp⟩ := Option.map_eq_some_iff.1 hinfo; simp only [Prod.mk.injEq] at hp; obtain ⟨hz, hsz, hby⟩ := hp; refine wpList_plain hgd fun K hK => ?_; refine wp_buildSlice t e 1 #[(0, x)] ho cs.toArray i z ht hi hz (by rw [hsz]; omega) (by rw [hsz]; omega) ?_ ?_
 { rw [hsz]; have : (#[(0, x)].map fun ((i, x) : Nat × Operand) => (i, a.eval x)).toList = [(0, v)] := (by simp [hx]); rw [this]; have h2 := Great.fill_whole (s := size) (by omega) [v] ((Array.range (1 * size)).map (z.cells[· % z.cells.size]!)) (fun u hu => by rw [List.mem_singleton.1 hu, ← Array.length_toList, hv, hcs]) (by simp); have h3 : ([v].flatMap fun v => v.cells.toList).toArray = cs.toArray := (by simp [hv]); rw [h3] at h2; exact h2 }
 {
 refine hK _ _ (h _ _ (ext_lit w _ _) ⟨by rw [Nat.one_mul]; exact hcs, .inr ⟨w.heap.size, 1, cs.toArray, rfl, Nat.le_refl _, heap_alloc_new w _, Nat.le_refl _, by decide, ?_, ?_⟩⟩)
 · rw [Nat.one_mul, List.size_toArray]; exact hcs
 · rw [Nat.one_mul, ← hcs]; simp
 }
theorem wpList_makeB {x y : Operand} {t e : TypeId} {z : Value} {bytes : Nat} (T : SliceT P t e z 1 bytes) (hz1 : z.cells = #[z]) (n : Nat) (hgd : o.guard = none) (ho : o.op = .makeSlice t x y) (hx : a.eval x = .int .i64 (n:Int)) (hy : a.eval y = .int .i64 (n:Int)) (hN : bytes * n ≤ 140737488355328)
 (h : ∀ b w1, Blk w1 b (List.replicate n z).toArray e → Ext w w1 → w.heap.size ≤ b → wpList P ops Q rest (a.put o.dst (.slice (some ⟨b, 0, none⟩) n n)) w1) : wpList P ops Q (o :: rest) a w :=
 wpList_makeK T hz1 hgd ho hx hy (by omega) (by rw [Int.toNat_natCast]; exact hN) (fun b w1 h1 h2 h3 => by
  rw [Int.toNat_natCast] at h1 ⊢
  exact h b w1 h1 h2 h3)
end
section
variable {w : World} {ops : Array Oper} {rest : List Oper} {o : Oper} {a : Act} {Q : Exit → Act → World → Prop}
theorem wpList_makeBits {x y : Operand} (hgd : o.guard = none) (ho : o.op = .makeSlice 22 x y) (hx : a.eval x = .int .i64 30000) (hy : a.eval y = .int .i64 30000)
 (h : ∀ b N w1, N = 30000 → Bits w1 b (fun _ => false) → Ext w w1 → w.heap.size ≤ b → wpList Tryz.prog ops Q rest (a.put o.dst (.slice (some ⟨b, 0, none⟩) N N)) w1) : wpList Tryz.prog ops Q (o :: rest) a w :=
 wpList_makeB tBoolsR rfl 30000 hgd ho hx hy (by omega) (fun b w1 h1 h2 h3 => h b 30000 w1 rfl (Bits.of_new h1) h2 h3)
end
set_option maxRecDepth 100000 in
set_option maxHeartbeats 4000000 in
theorem rLayers_any {p : PressD} {s : StD} (g : Good p s) (vj vu : Value) (w : World) (hj : Truths w vj p.jam) (hu : UnIn w vu s.units) :
 Calls Tryz.prog 38 #[pV vj p, sV vu s] w fun e w' => ∃ va vb, e = .returned (.tuple #[va, vb]) ∧ LyOut w.heap.size (closedL p s) va vb w' ∧ Ext w w' := by
 have hsm := g.small; have hdr := g.dr; have hac := rActions_any p vj; have hact := fun (t : StD) (gt : Good p t) (k : Int) (u : Nat) (va : Value) W (kx : Ext w W) (ht : UnIn W va t.units) => rAct_any gt k u vj va W (Sl.ext hj kx) ht; have hco := fun (t : StD) (va : Value) (hl : t.units.length ≤ 3) (hd : 0 ≤ t.drive ∧ t.drive ≤ 2) W (ht : UnIn W va t.units) => rCode0_any t va W ht hl hd; obtain ⟨a, c, rfl, Hu⟩ := hu.form; clear hu
 have hub : ∀ b, (Value.slice a s.units.length c).ownBlock = some b → b < w.heap.size := by
  intro b hb; obtain ⟨b1, o1, e1, hc1⟩ := UnIn.cells Hu.out (by omega); subst e1; have h2 := World.block_lt_of_cell? w _ (hc1 0 (by omega)).1
  cases hb
  exact h2
 have huk := UnK.of_in Hu.out hub; obtain ⟨hjl, aj, cj, hvj, _⟩ := id hj; rw [List.length_map] at hvj hjl; subst hvj; have hjn : p.jam.length = s.units.length := g.len.symm; obtain ⟨n, hn⟩ : ∃ n, s.units.length = n := ⟨_, rfl⟩; rw [hn] at hjn huk hsm; have hac2 := fun W (kx : Ext w W) => hac W (Sl.ext hj kx) (by rw [hjn]; exact hsm.1); obtain ⟨c0, hc0, hc0l⟩ := code_lt (⟨g.dr, hn⟩ : Fit n s) hsm.1; have hcs := hco s (.slice a n c) (by rw [hn]; exact hsm.1) g.dr; rw [hc0] at hcs; unfold pV sV at hact; unfold pV at hac2; unfold sV at hco hcs; unfold pV sV; rw [hn]; rw [hjn] at hact hac2 ⊢; have HAC := Hd hac2; have HACT := Hd hact; have HCO := Hd hco; have HUK := Hd huk; have HN := Hd hn; have HJN := Hd hjn; have HCS := Hd hcs; have HC0 := Hd hc0; clear hac2 hact hco huk hn hjn hcs hc0; clear hj Hu hub hac hdr
 go_enter Tryz.func38, Tryz.ntmps38
 have i1 : (0:Int) ≤ (c0:Int) := by omega
 go_upto_region 6 with (first
  | (with_reducible refine wpList_boxA (t := 24) (cs := #[.slice aj n cj, .int .i64 p.warm, .int .i64 p.tail, .int .i64 p.dirt]) rfl rfl rfl ?_
     rintro xb w1 hx1 hx2 hx3; have lx := hx3; have PB := Hd hx1; have X1 := Hd hx2; have LX := Hd lx; clear hx1 hx2 lx
     clear hx3)
  | (with_reducible refine wpList_boxA (t := 27) (cs := #[.int .i64 s.drive, .bool s.folder, .slice a n c, .int .i64 s.fresh]) rfl rfl rfl ?_
     rintro s0 w2 hy1 hy2 hy3; have pb2 := PB.out.ext hy2; have x2 := X1.out.tr hy2; have c2 := hy1.cell; clear PB X1; have SB0 := Hd hy1; have PB := Hd pb2; have X1 := Hd x2; clear hy1 pb2 x2
     clear hy3 hy2)
  | (with_reducible refine wpList_buildR tReached rfl rfl (v := .agg #[.int .i64 s.drive, .bool s.folder, .slice a n c, .int .i64 s.fresh, .slice none 0 0]) rfl [.int .i64 s.drive, .bool s.folder, .slice a n c, .int .i64 s.fresh, .slice none 0 0] (by omega) rfl rfl ?_
     rintro v6 w3 hx ho; have pb2 := PB.out.ext hx; have sb2 := SB0.out.ext hx; have ho2 := owns_weak ho X1.out.size; have x2 := X1.out.tr hx; clear PB X1 SB0 c2 hx ho; have c2 := sb2.cell; have PB := Hd pb2; have X1 := Hd x2; have SB0 := Hd sb2; have OR := Hd ho2
     clear pb2 x2 sb2 ho2)
  | (with_reducible refine wpList_makeBits rfl rfl rfl rfl ?_
     rintro sb N30 w4 hN30 hbits hx hl; have i2 : (c0:Int) < (N30:Int) := (by omega); have pb2 := PB.out.ext hx; have sb2 := SB0.out.ext hx; have or2 := owns_ext OR.out hx; have ls : w.heap.size ≤ sb := Nat.le_trans X1.out.size hl; have x2 := X1.out.tr hx; clear PB X1 SB0 c2 hx hl OR; have c2 := sb2.cell; have PB := Hd pb2; have X1 := Hd x2; have SB0 := Hd sb2; have OR := Hd or2; have BI := Hd hbits; have LS := Hd ls; have HN30 := Hd hN30
     clear pb2 x2 sb2 or2 hbits ls hN30)
  | (go_at_call 47
     refine (HCS.out _ (HUK.out.ext X1.out).1).mono ?_; rintro e w5 ⟨rfl, hx⟩; have pb2 := PB.out.ext hx; have or2 := owns_ext OR.out hx; have bi2 := BI.out.ext hx; have x2 := X1.out.tr hx; clear PB X1 SB0 c2 OR BI hx; obtain ⟨bcs, hbc, hbs⟩ := bi2.blk; have PB := Hd pb2; have X1 := Hd x2; have OR := Hd or2; have BI := Hd bi2; have BC := Hd hbc
     clear pb2 x2 or2 bi2 hbc)
  | (with_reducible refine wpList_setK (b := sb) (i := c0) (v := .bool true) rfl rfl BC.out ?_ ?_ ?_ ?_ ?_ ?_ ?_
     rfl; rfl; omega; kernel_rfl; rfl; rfl; rintro w6 hb ho; have hpb := PB.out; have hor := OR.out; have pb2 := hpb.only ho (fun e => by rw [e] at hpb; exact absurd (blk_ty hpb BC.out) (by decide)); have or2 := owns_only hor ho (fun b hb (e : b = sb) => by obtain ⟨_, cs', h2⟩ := row_blk hor b hb; rw [e] at h2; exact absurd (blk_ty h2 BC.out) (by decide)); have bi2 := BI.out.set BC.out hb; have x2 := X1.out.then_only ho (fun b (e : b = sb) => by rw [e]; exact LS.out); clear PB X1 OR BI hb ho hpb hor; have c1 := pb2.cell; have PB := Hd pb2; have X1 := Hd x2; have OR := Hd or2; have BI := Hd bi2
     clear pb2 x2 or2 bi2)
  | (go_at_call 52
     refine (HAC.out _ X1.out).mono ?_; rintro e w7 ⟨vl, rfl, hol, hx⟩; obtain ⟨al, cl, hvl⟩ := row_form hol; subst hvl; have pb2 := PB.out.ext hx; have or2 := owns_ext OR.out hx; have bi2 := BI.out.ext hx; have ol2 := owns_weak hol X1.out.size; have x2 := X1.out.tr hx; clear PB X1 OR BI hx hol c1; have PB := Hd pb2; have X1 := Hd x2; have OR := Hd or2; have BI := Hd bi2; have OL := Hd ol2
     clear pb2 x2 or2 bi2 ol2))
 obtain ⟨nk, hnk⟩ : ∃ m, (kindsR n).length = m := ⟨_, rfl⟩
 have h0 : LyI w.heap.size sb xb #[.slice aj n cj, .int .i64 p.warm, .int .i64 p.tail, .int .i64 p.dirt] (.slice al (kindsR n).length cl) n w p s (roundL p s 0) v6 w7 := by
  refine ⟨⟨fun _ => .slice a n c, fun _ => .slice none 0 0, OR.out, fun j hj => ?_⟩, ?_, PB.out, OL.out, X1.out⟩
  { have : j = 0 := (by unfold roundL at hj; simpa using hj); subst this; refine ⟨HUK.out.ext X1.out, ?_⟩; rw [byL_zero (round_ok (p := p) g.dr 0)]; exact World.ownsRow_nil _ _ _ _ }
  { refine BI.out.congr fun x => ?_; unfold seenC roundL; simp only [List.any_cons, List.any_nil, Bool.or_false, Bool.false_or]; rw [HC0.out, Bool.eq_iff_iff, beq_iff_eq, beq_iff_eq]; omega }
 rw [hnk] at h0; have hsb : w.heap.size ≤ sb := LS.out
 have hnk36 : nk ≤ 36 := by
  rw [← hnk, ← kR_end]; have h1 := kR_le n 12; have h2 := hsm.1; omega
 clear i1 i2 hc0l; have H0 := Hd h0; have HNK := Hd hnk; have HG := Hd g; have HSB := Hd hsb; have HSM := Hd hsm; clear h0 hnk g hsb hsm; clear PB OR BI OL; rw [HNK.out]
 go_loopw [6, 9] (fun v6 t9 wr => ∃ i : Nat, t9 = .int .i64 i ∧ Hid (∀ m, m < i → m < (roundL p s m).length) ∧ Hid (i ≤ (roundL p s i).length) ∧ Hid (LyI w.heap.size sb xb #[.slice aj n cj, .int .i64 p.warm, .int .i64 p.tail, .int .i64 p.dirt] (.slice al nk cl) n w p s (roundL p s i) v6 wr)) (fun _ t9 _ => 32769 - (intOf t9).toNat)
 case atStart => exact ⟨0, rfl, (fun m hm => by omega), Nat.zero_le _, H0⟩
 case round =>
  clear H0; obtain ⟨i, rfl, HM, HLE, HI⟩ := hrel; have hro := round_ok (p := p) (s := s) HG.out.dr i; have hlen := hro.len; obtain ⟨L0, hL0⟩ : ∃ L, roundL p s i = L := ⟨_, rfl⟩; have hi0 := HI.out; obtain ⟨fu, fb, hrow, hel⟩ := HI.out.row; rw [hL0] at hrow hel hro hlen hi0; obtain ⟨a6, c6, hv6⟩ := row_form hrow; subst hv6; obtain ⟨wo, rfl⟩ : ∃ W, W = wr := ⟨wr, rfl⟩
  by_cases hlt : i < L0.length
  {
  skip
  as_aux_lemma =>
   have hgd : AllGood p (roundL p s i) := round_good HG.out i; rw [hL0] at hgd; obtain ⟨x, hx⟩ : ∃ x, L0[i] = x := ⟨_, rfl⟩; have gt : Good p x.at_ := (by rw [← hx]; exact hgd _ (List.getElem_mem hlt)); have ft : Fit s.units.length x.at_ := (by rw [← hx]; exact hro.fit _ (List.getElem_mem hlt)); obtain ⟨hux, hbx⟩ := hel i hlt; have hcell := fun j hj => rcL_get fu fb L0 i j hlt hj; rw [hx] at hux hcell; have hxt : L0[i].at_ = x.at_ := (by rw [hx]); obtain ⟨t, tk, tu, tf⟩ := x; dsimp only at gt ft hux hxt; have ftl := ft.len; rw [HN.out] at ftl; obtain ⟨ta, tc, htv, _⟩ := hux.1.form; rw [ftl] at htv; obtain ⟨ba, bc, hbv⟩ := row_form hbx; obtain ⟨bl, hbl⟩ : ∃ B, byL L0 i = B := ⟨_, rfl⟩; rw [hbl] at hbx hbv; rw [htv] at hux; rw [hbv] at hbx; rw [htv, hbv] at hcell; have hbll : bl.length ≤ 40000 := (by rw [← hbl]; exact byL_len _ _); obtain ⟨g6, o6, rfl, hc6⟩ := row_cells hrow (by omega); have d0 : wo.cell? ⟨g6, o6 + i * 5, none⟩ = some (.int .i64 t.drive) := hc6 _ _ (hcell 0 (by omega)); have d1 : wo.cell? ⟨g6, o6 + i * 5 + 1, none⟩ = some (.bool t.folder) := hc6 _ _ (hcell 1 (by omega)); have d2 : wo.cell? ⟨g6, o6 + i * 5 + 2, none⟩ = some (.slice ta n tc) := hc6 _ _ (hcell 2 (by omega)); have d3 : wo.cell? ⟨g6, o6 + i * 5 + 3, none⟩ = some (.int .i64 t.fresh) := hc6 _ _ (hcell 3 (by omega)); have d4 : wo.cell? ⟨g6, o6 + i * 5 + 4, none⟩ = some (.slice ba bl.length bc) := hc6 _ _ (hcell 4 (by omega)); have i0 : (0:Int) ≤ (i:Int) := (by omega); have i1 : (i:Int) < (L0.length:Int) := (by omega); clear hc6 hcell htv hbv hel hgd hx; have HUX := Hd hux; have HBX := Hd hbx; have HRO := Hd hro; have HL0 := Hd hL0; have GT := Hd gt; have FT := Hd ft; have FTL := Hd ftl; have HXT := Hd hxt; have HBL := Hd hbl; clear hux hbx hro hL0 gt ft ftl hxt hbl; have lnw := hi0.ext.size; have LNW := Hd lnw; have HI0 := Hd hi0; have HRW := Hd hrow; clear lnw hi0 hrow
   go_upto_region 10 with (first
    | (with_reducible refine wpList_allocA (t := 149) rfl rfl Tryz.zeroValue149 ?_
       rintro nb w10 hy1 hy2 hy3; have lnb : wo.heap.size ≤ nb := hy3; have e0 := hy2.cellSome d0; have e1 := hy2.cellSome d1; have e2 := hy2.cellSome d2; have e3 := hy2.cellSome d3; have e4 := hy2.cellSome d4; clear d0 d1 d2 d3 d4 hy3; have NB := Hd hy1; have Z := Hd hy2; have LNB := Hd lnb
       clear hy1 hy2 lnb)
    | (with_reducible refine wpList_storeK (ty := 149) (cells := #[.int .i64 t.drive, .bool t.folder, .slice ta n tc, .int .i64 t.fresh, .slice ba bl.length bc]) rfl rfl NB.out ?_ ?_ ?_ ?_ ?_ ?_
       rfl; rfl; kernel_rfl; rfl; simp [Value.oneCell']; rintro w11 hb ho; have hx := Z.out.then_only ho (fun k (e : k = nb) => by rw [e]; exact LNB.out); clear e0 e1 e2 e3 e4 Z NB ho; have Z := Hd hx; have NB := Hd hb
       clear hx hb))
   have hi1 := HI0.out.ext' Z.out; have hux1 := HUX.out.ext Z.out; have hbx1 := owns_ext HBX.out Z.out; clear HUX HBX HI0 HI i0 i1; have HI1 := Hd hi1; have UX := Hd hux1; have BX := Hd hbx1; clear hi1 hux1 hbx1; have lnb : w.heap.size ≤ nb := Nat.le_trans LNW.out LNB.out; have ne0 : ∀ b, (Value.slice (some ⟨g6, o6, none⟩) L0.length c6).ownBlock = some b → b ≠ nb := fun b hb e => (by have h1 := (HRW.out.lt b hb).2; have h2 := LNB.out; omega); have NE0 := Hd ne0; clear ne0
   go_loopw [6, 11] (fun v6 t11 wr => ∃ k : Nat, k ≤ nk ∧ t11 = .int .i64 k ∧ Hid (LyI w.heap.size sb xb #[.slice aj n cj, .int .i64 p.warm, .int .i64 p.tail, .int .i64 p.dirt] (.slice al nk cl) n w p s (((kindsR n).take k).foldl (addStep p i t) L0) v6 wr) ∧ Hid (Blk wr nb #[.int .i64 t.drive, .bool t.folder, .slice ta n tc, .int .i64 t.fresh, .slice ba bl.length bc] 149) ∧ Hid (UnK w.heap.size wr (.slice ta n tc) t.units) ∧ Hid (wr.ownsRow w.heap.size 66 2 (.slice ba bl.length bc) bl.length (acL bl)) ∧ Hid (∀ b, v6.ownBlock = some b → b ≠ nb)) (fun _ t11 _ => nk - (intOf t11).toNat)
   case atStart => exact ⟨0, Nat.zero_le _, rfl, HI1, NB, UX, BX, NE0⟩
   case round =>
    clear HI1 NB UX BX Z NE0; obtain ⟨k, hk, rfl, HI2, NB2, UX2, BX2, NE⟩ := hrel; obtain ⟨L, hL⟩ : ∃ L, ((kindsR n).take k).foldl (addStep p i t) L0 = L := ⟨_, rfl⟩; have hpre : L0 <+: L := (by rw [← hL]; exact foldl_pre _ _); have hroL : RoundOk p s L := (by rw [← hL]; exact RoundOk.fold FT.out _ HRO.out hlt); have hiL2 : i < L.length := Nat.lt_of_lt_of_le hlt hpre.length_le; have hby : byL L i = bl := (by rw [byL_pre hpre HRO.out.back hlt]; exact HBL.out); have hi2 := HI2.out; rw [hL] at hi2; obtain ⟨fu2, fb2, hrow2, hel2⟩ := hi2.row; obtain ⟨a7, c7, hv7⟩ := row_form hrow2; subst hv7
    by_cases hlk : k < nk
    {
    have hkk : k < (kindsR n).length := (by rw [HNK.out]; exact hlk); obtain ⟨⟨ak, au⟩, hak⟩ : ∃ x, (kindsR n)[k] = x := ⟨_, rfl⟩; have hfs : ((kindsR n).take (k + 1)).foldl (addStep p i t) L0 = addStep p i t L (ak, au) := (by rw [fold_succ hkk, hL, hak]); rw [addStep_code (by rw [HN.out]; exact HSM.out.1) hroL.fit FT.out] at hfs; have hacs := hi2.acts; rw [HNK.out] at hacs; obtain ⟨gl, ol, rfl, hcl⟩ := row_cells hacs (by omega); have e1 : wr.cell? ⟨gl, ol + k * 2, none⟩ = some (.int .i64 ak) := hcl _ _ (by rw [(acK_get _ _ hkk).1, hak]); have e2 : wr.cell? ⟨gl, ol + k * 2 + 1, none⟩ = some (.int .i64 (au:Int)) := hcl _ _ (by rw [(acK_get _ _ hkk).2, hak]); have hact := fun W (kx : Ext wr W) => HACT.out t GT.out ak au (.slice ta n tc) W (hi2.ext.tr kx) (UX2.out.1.ext kx); have hau : (actD p t ak au).units.length = n := (by rw [actD_units]; exact FTL.out); have hft : Fit s.units.length (actD p t ak au) := FT.out.act ak au; obtain ⟨er, her⟩ : ∃ x, actErr p t ak au = x := ⟨_, rfl⟩; obtain ⟨u, hud⟩ : ∃ x, actD p t ak au = x := ⟨_, rfl⟩; rw [her, hud] at hact hfs; rw [hud] at hau hft; have j0 : (0:Int) ≤ (k:Int) := (by omega); have j1 : (k:Int) < (nk:Int) := (by omega); have hS : ∀ W, Ext wr W → ((∀ j, W.cell? ⟨xb, j, none⟩ = (#[.slice aj n cj, .int .i64 p.warm, .int .i64 p.tail, .int .i64 p.dirt] : Array Value)[j]?) ∧ (∀ j, W.cell? ⟨nb, j, none⟩ = (#[.int .i64 t.drive, .bool t.folder, .slice ta n tc, .int .i64 t.fresh, .slice ba bl.length bc] : Array Value)[j]?) ∧ W.cell? ⟨gl, ol + k * 2, none⟩ = some (.int .i64 ak) ∧ W.cell? ⟨gl, ol + k * 2 + 1, none⟩ = some (.int .i64 (au:Int))) := fun W hx => ⟨(hi2.press.ext hx).cell, (NB2.out.ext hx).cell, hx.cellSome e1, hx.cellSome e2⟩; clear e1 e2 hcl hacs hel2 hrow2 HI2 hpre; have HAK := Hd hak; have HI2 := Hd hi2; have HACT2 := Hd hact; have HFS := Hd hfs; have HAU := Hd hau; have HFU := Hd hft; have HS := Hd hS; have HROL := Hd hroL; have HBY := Hd hby; have HL := Hd hL; have HER := Hd her; have HUD := Hd hud; clear hak hi2 hact hfs hau hft hS hroL hby hL her hud
    go_upto_region 12 with (fail)
    go_cut [12, 13] (fun v12 v13 W => ∃ qb a5 c5, v12 = .pointer (some ⟨qb, 0, none⟩) ∧ v13 = .int .i64 er ∧ Hid (Blk W qb #[.int .i64 u.drive, .bool u.folder, .slice a5 n c5, .int .i64 u.fresh] 27) ∧ Hid (er = 0 → W.ownsRow wr.heap.size 63 5 (.slice a5 n c5) n (uL u.units)) ∧ Hid (Ext wr W))
    case first =>
     as_aux_lemma =>
      have xd : Ext wr wr.drew := (Below.refl _ wr).drew; refine wp_region_K (fun wx => (∀ j, wx.cell? ⟨xb, j, none⟩ = (#[.slice aj n cj, .int .i64 p.warm, .int .i64 p.tail, .int .i64 p.dirt] : Array Value)[j]?) ∧ (∀ j, wx.cell? ⟨nb, j, none⟩ = (#[.int .i64 t.drive, .bool t.folder, .slice ta n tc, .int .i64 t.fresh, .slice ba bl.length bc] : Array Value)[j]?) ∧ wx.cell? ⟨gl, ol + k * 2, none⟩ = some (.int .i64 ak) ∧ wx.cell? ⟨gl, ol + k * 2 + 1, none⟩ = some (.int .i64 (au:Int))) 12 (by kernel_rfl) (HS.out _ xd) (fun kh => ?_); generalize wr.drew = wA at *; have XC := Hd xd; clear xd; refine kX 3 kh ?_; simp only [kS]; refine kX 4 kh ?_; simp only [kS]; refine kX 5 kh ?_; simp only [kS]; refine kX 0 kh ?_; simp only [kS]; refine kX 1 kh ?_; simp only [kS]; refine kX 2 kh ?_; simp only [kS]; refine kX 6 kh ?_; simp only [kS]; refine rK [7, 11] ?_; refine xK 7 (fun K hK => ?_) ?_
      {
      refine cK #[.agg #[.slice aj n cj, .int .i64 p.warm, .int .i64 p.tail, .int .i64 p.dirt], .agg #[.int .i64 t.drive, .bool t.folder, .slice ta n tc, .int .i64 t.fresh], .agg #[.int .i64 ak, .int .i64 (au:Int)]] Tryz.func53 (HACT2.out _ XC.out) ?_; rintro e wy ⟨v6, rfl, hv6, hx, how6⟩; obtain ⟨a5, c5, hvf, _⟩ := hv6.form; rw [HAU.out] at hvf how6; subst hvf; refine ⟨_, rfl, ?_⟩; have ow : er = 0 → wy.ownsRow wr.heap.size 63 5 (.slice a5 n c5) n (uL u.units) := fun h => owns_weak (how6 h) XC.out.size; have OW := Hd ow; (try (have NE : Hid (er = 0 → ∀ b, (Value.slice a5 n c5).ownBlock = some b → ¬ b = qb) := Hd (fun h b hb e => by have h1 := ((how6 h).lt b hb).1; have h2 := QB.out.lt; omega))); (try (replace QB := Hd (QB.out.ext hx))); replace XC := Hd (XC.out.tr hx); clear hx hv6 how6 ow; refine kG hK (HS.out _ XC.out) fun kh => ?_; (try simp only [kS]); refine kX 8 kh ?_; simp only [kS]; refine kX 9 kh ?_; simp only [kS]; refine rK [10, 11] ?_; refine xK 10 (fun K hK => ?_) ?_
      {
      go_simp; refine kG hK (HS.out _ XC.out) fun kh => ?_; (try simp only [kS]); refine rK [11] ?_; refine xK 11 (fun K hK => ?_) ?_
      {
      refine step_allocA (t := 27) rfl rfl Tryz.zeroValue27 ?_; intro qb wy hb hx hl; have LQB := Hd (Nat.le_trans XC.out.size hl); have QB := Hd hb; (try (have NE : Hid (er = 0 → ∀ b, (Value.slice a5 n c5).ownBlock = some b → ¬ b = qb) := Hd (fun h b hb e => by have h1 := ((OW.out h).lt b hb).2; omega))); (try (replace OW := Hd (fun h => owns_ext (OW.out h) hx))); clear hb hl; replace XC := Hd (XC.out.tr hx); clear hx; refine kG hK (HS.out _ XC.out) fun kh => ?_; (try simp only [kS]); refine rK [12] ?_; refine xK 12 (fun K hK => ?_) ?_
      {
      refine sK #[.int .i64 u.drive, .bool u.folder, .slice a5 n c5, .int .i64 u.fresh] QB.out ?_; intro wz hb ho; have xc := XC.out.then_only ho (fun b (e : b = qb) => by rw [e]; exact LQB.out); have ow : er = 0 → wz.ownsRow wr.heap.size 63 5 (.slice a5 n c5) n (uL u.units) := fun h => owns_only (OW.out h) ho (NE.out h); clear OW QB XC ho NE; have OW := Hd ow; have QB := Hd hb; have XC := Hd xc; clear ow hb xc; refine kH hK rfl ?_; (try clear kh); (try simp only [kS]); refine rK [13] ?_; refine xK 13 (fun K hK => ?_) ?_
      {
      go_simp; refine kH hK rfl ?_; (try clear kh); (try simp only [kS]); refine dK ?_ _; go_wp2; go_meet
      case rel => exact ⟨qb, a5, c5, rfl, rfl, QB, OW, XC⟩
      }
      exact nK
      }
      exact nK
      }
      exact nK
      }
      refine xK 11 (fun K hK => ?_) ?_
      {
      refine step_allocA (t := 27) rfl rfl Tryz.zeroValue27 ?_; intro qb wy hb hx hl; have LQB := Hd (Nat.le_trans XC.out.size hl); have QB := Hd hb; (try (have NE : Hid (er = 0 → ∀ b, (Value.slice a5 n c5).ownBlock = some b → ¬ b = qb) := Hd (fun h b hb e => by have h1 := ((OW.out h).lt b hb).2; omega))); (try (replace OW := Hd (fun h => owns_ext (OW.out h) hx))); clear hb hl; replace XC := Hd (XC.out.tr hx); clear hx; refine kG hK (HS.out _ XC.out) fun kh => ?_; (try simp only [kS]); refine rK [10, 12] ?_; refine xK 10 (fun K hK => ?_) ?_
      {
      go_simp; refine kG hK (HS.out _ XC.out) fun kh => ?_; (try simp only [kS]); refine rK [12] ?_; refine xK 12 (fun K hK => ?_) ?_
      {
      refine sK #[.int .i64 u.drive, .bool u.folder, .slice a5 n c5, .int .i64 u.fresh] QB.out ?_; intro wz hb ho; have xc := XC.out.then_only ho (fun b (e : b = qb) => by rw [e]; exact LQB.out); have ow : er = 0 → wz.ownsRow wr.heap.size 63 5 (.slice a5 n c5) n (uL u.units) := fun h => owns_only (OW.out h) ho (NE.out h); clear OW QB XC ho NE; have OW := Hd ow; have QB := Hd hb; have XC := Hd xc; clear ow hb xc; refine kH hK rfl ?_; (try clear kh); (try simp only [kS]); refine rK [13] ?_; refine xK 13 (fun K hK => ?_) ?_
      {
      go_simp; refine kH hK rfl ?_; (try clear kh); (try simp only [kS]); refine dK ?_ _; go_wp2; go_meet
      case rel => exact ⟨qb, a5, c5, rfl, rfl, QB, OW, XC⟩
      }
      exact nK
      }
      exact nK
      }
      refine xK 12 (fun K hK => ?_) ?_
      {
      refine sK #[.int .i64 u.drive, .bool u.folder, .slice a5 n c5, .int .i64 u.fresh] QB.out ?_; intro wz hb ho; have xc := XC.out.then_only ho (fun b (e : b = qb) => by rw [e]; exact LQB.out); have ow : er = 0 → wz.ownsRow wr.heap.size 63 5 (.slice a5 n c5) n (uL u.units) := fun h => owns_only (OW.out h) ho (NE.out h); clear OW QB XC ho NE; have OW := Hd ow; have QB := Hd hb; have XC := Hd xc; clear ow hb xc; refine kH hK rfl ?_; (try clear kh); (try simp only [kS]); refine rK [10] ?_; refine xK 10 (fun K hK => ?_) ?_
      {
      go_simp; refine kG hK (HS.out _ XC.out) fun kh => ?_; (try simp only [kS]); refine rK [13] ?_; refine xK 13 (fun K hK => ?_) ?_
      {
      go_simp; refine kH hK rfl ?_; (try clear kh); (try simp only [kS]); refine dK ?_ _; go_wp2; go_meet
      case rel => exact ⟨qb, a5, c5, rfl, rfl, QB, OW, XC⟩
      }
      exact nK
      }
      exact nK
      }
      exact nK
      }
      exact nK
      }
      refine xK 11 (fun K hK => ?_) ?_
      {
      refine step_allocA (t := 27) rfl rfl Tryz.zeroValue27 ?_; intro qb wy hb hx hl; have LQB := Hd (Nat.le_trans XC.out.size hl); have QB := Hd hb; (try (have NE : Hid (er = 0 → ∀ b, (Value.slice a5 n c5).ownBlock = some b → ¬ b = qb) := Hd (fun h b hb e => by have h1 := ((OW.out h).lt b hb).2; omega))); (try (replace OW := Hd (fun h => owns_ext (OW.out h) hx))); clear hb hl; replace XC := Hd (XC.out.tr hx); clear hx; refine kG hK (HS.out _ XC.out) fun kh => ?_; (try simp only [kS]); refine rK [7] ?_; refine xK 7 (fun K hK => ?_) ?_
      {
      refine cK #[.agg #[.slice aj n cj, .int .i64 p.warm, .int .i64 p.tail, .int .i64 p.dirt], .agg #[.int .i64 t.drive, .bool t.folder, .slice ta n tc, .int .i64 t.fresh], .agg #[.int .i64 ak, .int .i64 (au:Int)]] Tryz.func53 (HACT2.out _ XC.out) ?_; rintro e wy ⟨v6, rfl, hv6, hx, how6⟩; obtain ⟨a5, c5, hvf, _⟩ := hv6.form; rw [HAU.out] at hvf how6; subst hvf; refine ⟨_, rfl, ?_⟩; have ow : er = 0 → wy.ownsRow wr.heap.size 63 5 (.slice a5 n c5) n (uL u.units) := fun h => owns_weak (how6 h) XC.out.size; have OW := Hd ow; (try (have NE : Hid (er = 0 → ∀ b, (Value.slice a5 n c5).ownBlock = some b → ¬ b = qb) := Hd (fun h b hb e => by have h1 := ((how6 h).lt b hb).1; have h2 := QB.out.lt; omega))); (try (replace QB := Hd (QB.out.ext hx))); replace XC := Hd (XC.out.tr hx); clear hx hv6 how6 ow; refine kG hK (HS.out _ XC.out) fun kh => ?_; (try simp only [kS]); refine kX 8 kh ?_; simp only [kS]; refine kX 9 kh ?_; simp only [kS]; refine rK [10, 12] ?_; refine xK 10 (fun K hK => ?_) ?_
      {
      go_simp; refine kG hK (HS.out _ XC.out) fun kh => ?_; (try simp only [kS]); refine rK [12] ?_; refine xK 12 (fun K hK => ?_) ?_
      {
      refine sK #[.int .i64 u.drive, .bool u.folder, .slice a5 n c5, .int .i64 u.fresh] QB.out ?_; intro wz hb ho; have xc := XC.out.then_only ho (fun b (e : b = qb) => by rw [e]; exact LQB.out); have ow : er = 0 → wz.ownsRow wr.heap.size 63 5 (.slice a5 n c5) n (uL u.units) := fun h => owns_only (OW.out h) ho (NE.out h); clear OW QB XC ho NE; have OW := Hd ow; have QB := Hd hb; have XC := Hd xc; clear ow hb xc; refine kH hK rfl ?_; (try clear kh); (try simp only [kS]); refine rK [13] ?_; refine xK 13 (fun K hK => ?_) ?_
      {
      go_simp; refine kH hK rfl ?_; (try clear kh); (try simp only [kS]); refine dK ?_ _; go_wp2; go_meet
      case rel => exact ⟨qb, a5, c5, rfl, rfl, QB, OW, XC⟩
      }
      exact nK
      }
      exact nK
      }
      refine xK 12 (fun K hK => ?_) ?_
      {
      refine sK #[.int .i64 u.drive, .bool u.folder, .slice a5 n c5, .int .i64 u.fresh] QB.out ?_; intro wz hb ho; have xc := XC.out.then_only ho (fun b (e : b = qb) => by rw [e]; exact LQB.out); have ow : er = 0 → wz.ownsRow wr.heap.size 63 5 (.slice a5 n c5) n (uL u.units) := fun h => owns_only (OW.out h) ho (NE.out h); clear OW QB XC ho NE; have OW := Hd ow; have QB := Hd hb; have XC := Hd xc; clear ow hb xc; refine kH hK rfl ?_; (try clear kh); (try simp only [kS]); refine rK [10] ?_; refine xK 10 (fun K hK => ?_) ?_
      {
      go_simp; refine kG hK (HS.out _ XC.out) fun kh => ?_; (try simp only [kS]); refine rK [13] ?_; refine xK 13 (fun K hK => ?_) ?_
      {
      go_simp; refine kH hK rfl ?_; (try clear kh); (try simp only [kS]); refine dK ?_ _; go_wp2; go_meet
      case rel => exact ⟨qb, a5, c5, rfl, rfl, QB, OW, XC⟩
      }
      exact nK
      }
      exact nK
      }
      exact nK
      }
      exact nK
      }
      exact nK
    case rest =>
    obtain ⟨qb, a5, c5, rfl, rfl, QB, OW, XC⟩ := hcut; obtain ⟨w6, rfl⟩ : ∃ W, W = wc := ⟨wc, rfl⟩; have hi3 := HI2.out.ext' XC.out; have nb3 := NB2.out.ext XC.out; have ux3 := UX2.out.ext XC.out; have bx3 := owns_ext BX2.out XC.out; clear HI2 NB2 UX2 BX2 j0 j1 HS HACT2; have c4 := QB.out.cell; have HI3 := Hd hi3; have NB3 := Hd nb3; have UX3 := Hd ux3; have BX3 := Hd bx3; clear hi3 nb3 ux3 bx3
    by_cases h9 : er = 0
    {
    subst h9; have ow := OW.out rfl; have hun : UnIn w6 (.slice a5 n c5) u.units := UnIn.of_owns (by rw [HAU.out]; exact ow) (by rw [HAU.out]; have := HSM.out.1; omega); have huk : UnK w.heap.size w6 (.slice a5 n c5) u.units := UnK.of_owns (by rw [HAU.out]; exact ow) (by rw [HAU.out]; have := HSM.out.1; omega); obtain ⟨q1, hq1, hq1l⟩ := code_lt HFU.out (by rw [HN.out]; exact HSM.out.1); have hco2 := fun W (kx : Ext w6 W) => HCO.out u (.slice a5 n c5) (by rw [HAU.out]; exact HSM.out.1) HFU.out.dr W (hun.ext kx); rw [hq1] at hco2; have bt := HI3.out.bits.cell (c := q1) (by omega); have hse := seen_any (l := L) hq1; obtain ⟨kn, hkn⟩ : ∃ b, seenC L q1 = b := ⟨_, rfl⟩; rw [hkn] at bt hse; have hnx := HFS.out; rw [if_pos rfl, ← hse] at hnx; have j2 : (0:Int) ≤ (q1:Int) := (by omega); have j3 : (q1:Int) < (N30:Int) := (by rw [HN30.out]; omega); clear ow hse hkn; have HUN := Hd hun; have HUK2 := Hd huk; have HCO2 := Hd hco2; have HQ1 := Hd hq1; clear hun huk hco2 hq1
    cases kn
    {
    rw [if_neg (by decide)] at hnx; have HNX := Hd hnx; clear hnx
    go_upto_region 14 with (
     go_at_call 47; refine (HCO2.out _ (Below.refl _ _)).mono ?_; rintro e wA ⟨rfl, hx⟩; have bt2 := hx.cellSome bt; have qb2 := QB.out.ext hx; clear bt c4; have c4 := qb2.cell; have XA := Hd hx; have QB2 := Hd qb2
     clear hx qb2)
    go_upto_region 15 with (first
     | (go_at_call 47
        refine (HCO2.out _ XA.out).mono ?_; rintro e wB ⟨rfl, hx⟩; have xb2 := XA.out.tr hx; have qb3 := QB2.out.ext hx; have hib := HI3.out.ext' xb2; have nbB := NB3.out.ext xb2; have uxB := UX3.out.ext xb2; have bxB := owns_ext BX3.out xb2; have unB := HUK2.out.ext xb2; obtain ⟨bcs2, hbc2, hbs2⟩ := hib.bits.blk; obtain ⟨fuB, fbB, hrowB, helB⟩ := hib.row; clear bt2 c4 XA HCO2 hx HI3 NB3 UX3 BX3 HUK2 QB QB2; have HIB := Hd hib; have NBB := Hd nbB; have UXB := Hd uxB; have BXB := Hd bxB; have UNB := Hd unB; have QB3 := Hd qb3; have BC2 := Hd hbc2; have HRB := Hd hrowB; have HEB := Hd helB
        clear hib nbB uxB bxB unB qb3 hbc2 hrowB helB)
     | (with_reducible refine wpList_setK (b := sb) (i := q1) (v := .bool true) rfl rfl BC2.out ?_ ?_ ?_ ?_ ?_ ?_ ?_
        rfl; rfl; omega; rfl; rfl; rfl; rintro w5x hb ho; have nn : ∀ (b : Nat) (cs : Array Value) (t : TypeId), Blk wB b cs t → t ≠ 4 → ¬ b = sb := fun b cs t h ht e => (by rw [e] at h; exact ht (blk_ty h BC2.out)); have fsb : FreeK w.heap.size wB sb := ⟨HSB.out, fun cs' t h => by rw [blk_ty h BC2.out]; decide⟩; have nb5 := NBB.out.only ho (nn _ _ _ NBB.out (by decide)); have ux5 := UXB.out.only ho (fun b (e : b = sb) => by rw [e]; exact fsb); have un5 := UNB.out.only ho (fun b (e : b = sb) => by rw [e]; exact fsb); have bx5 := owns_only BXB.out ho (fun b hb2 => by obtain ⟨_, cs', h2⟩ := row_blk BXB.out b hb2; exact nn _ _ _ h2 (by decide)); have qb5 := QB3.out.only ho (nn _ _ _ QB3.out (by decide)); have ac5 := owns_only HIB.out.acts ho (fun b hb2 => by obtain ⟨_, cs', h2⟩ := row_blk HIB.out.acts b hb2; exact nn _ _ _ h2 (by decide)); have r5 := owns_only HRB.out ho (fun b hb2 => by obtain ⟨_, cs', h2⟩ := row_blk HRB.out b hb2; exact nn _ _ _ h2 (by decide)); have sz5 : w.heap.size ≤ w5x.heap.size := Nat.le_trans HIB.out.ext.size ho.size; have c3 := nb5.cell; clear nn fsb; have H5 := Hd hb; have O5 := Hd ho; have NB5 := Hd nb5; have UX5 := Hd ux5; have UN5 := Hd un5; have BX5 := Hd bx5; have QB5 := Hd qb5; have SZ5 := Hd sz5; have AC5 := Hd ac5; have R5 := Hd r5
        clear hb ho nb5 ux5 un5 bx5 qb5 sz5 ac5 r5))
    rw [HNK.out] at AC5; have lk : L.length ≤ 32768 := HROL.out.len
    have hS5 : ∀ W, Ext w5x W → ((∀ j, W.cell? ⟨qb, j, none⟩ = (#[.int .i64 u.drive, .bool u.folder, .slice a5 n c5, .int .i64 u.fresh] : Array Value)[j]?) ∧ W.cell? ⟨gl, ol + k * 2, none⟩ = some (.int .i64 ak) ∧ W.cell? ⟨gl, ol + k * 2 + 1, none⟩ = some (.int .i64 (au:Int))) := fun W hx =>
     ⟨(QB5.out.ext hx).cell, owns_pt (owns_ext AC5.out hx) _ _ (by rw [(acK_get _ _ hkk).1, HAK.out]), owns_pt (owns_ext AC5.out hx) _ _ (by rw [(acK_get _ _ hkk).2, HAK.out])⟩
    have HS5 := Hd hS5; clear hS5
    go_upto_region 16 with (first
     | (with_reducible refine wpList_buildE tActsR rfl rfl ?_
        rintro v68 w10 hx ho68; have bx6 := owns_ext BX5.out hx; clear c3; have c3 := (NB5.out.ext hx).cell; have X10 := Hd hx; have O68 := Hd ho68; have BX6 := Hd bx6
        clear hx ho68 bx6)
     | (at_builtin
        refine wpList_app (n := 0) (m := bl.length) tActsR rfl rfl (v := v68) rfl O68.out rfl (owns_src BX6.out) (acL_one _) (by omega) X10.out.size ?_; rintro v14 w11 t1 t2 t3; rw [Nat.zero_add, List.nil_append] at t1; obtain ⟨a14, c14, hv14⟩ := row_form t1; subst hv14; have x2 := X10.out.then_only (only_grown t2) (fun b hb => (O68.out.lt b hb).1); clear t2 t3 c3; have X15 := Hd x2; have O14 := Hd t1
        clear x2 t1))
    have xd := X15.out.drew; refine wp_region_K (fun wx => (∀ j, wx.cell? ⟨qb, j, none⟩ = (#[.int .i64 u.drive, .bool u.folder, .slice a5 n c5, .int .i64 u.fresh] : Array Value)[j]?) ∧ wx.cell? ⟨gl, ol + k * 2, none⟩ = some (.int .i64 ak) ∧ wx.cell? ⟨gl, ol + k * 2 + 1, none⟩ = some (.int .i64 (au:Int))) 12 (by kernel_rfl) (HS5.out _ xd) (fun kh => ?_); have o14 := owns_ext O14.out (Ext.drew (Below.refl _ w11)); clear O14; generalize w11.drew = wG at *; have X16 := Hd xd; have O14 := Hd o14; clear xd o14; refine kX 0 kh ?_; simp only [kS]; refine kX 1 kh ?_; simp only [kS]; refine kX 2 kh ?_; simp only [kS]; refine kX 3 kh ?_; simp only [kS]; refine kX 4 kh ?_; simp only [kS]; refine kX 5 kh ?_; simp only [kS]; refine kX 6 kh ?_; simp only [kS]; refine rK [7] ?_; refine xK 7 (fun K hK => ?_) ?_
    {
    refine step_build1 tActsR rfl rfl (v := .agg #[.int .i64 ak, .int .i64 (au:Int)]) rfl [.int .i64 ak, .int .i64 (au:Int)] (by omega) rfl rfl ?_; intro b7 wy hx hl7 hlt7 hc7; have o14 := owns_ext O14.out hx; have x2 := X16.out.tr hx; clear O14 X16 hl7 hlt7 hx; have X16 := Hd x2; have O14 := Hd o14; clear x2 o14; refine kG hK (HS5.out _ X16.out) fun kh => ?_; (try simp only [kS]); refine rK [8] ?_; refine xK 8 (fun K hK => ?_) ?_
    {
    refine step_app tActsR rfl rfl rfl O14.out rfl (cs := [.int .i64 ak, .int .i64 (au:Int)]) rfl (by omega) hc7 (by simp [Value.oneCell']) (by omega) X16.out.size ?_; intro v8 wz t1 t2 t3 t4; obtain ⟨a8, c8, hv8⟩ := row_form t1; subst hv8; have x2 := X16.out.then_only (only_grown t2) (fun b hb => (O14.out.lt b hb).1); clear O14 X16 hc7 t2 t3 t4; have X16 := Hd x2; have O8 := Hd t1; clear x2 t1; refine kG hK (HS5.out _ X16.out) fun kh => ?_; (try simp only [kS]); refine kX 9 kh ?_; simp only [kS]; refine rK [10] ?_; refine xK 10 (fun K hK => ?_) ?_
    {
    refine step_build1 tReached rfl rfl (v := .agg #[.int .i64 u.drive, .bool u.folder, .slice a5 n c5, .int .i64 u.fresh, .slice a8 (bl.length + 1) c8]) rfl [.int .i64 u.drive, .bool u.folder, .slice a5 n c5, .int .i64 u.fresh, .slice a8 (bl.length + 1) c8] (by omega) rfl rfl ?_; intro b10 wu hx hl7 hlt7 hc10; have o8 := owns_ext O8.out hx; have x2 := X16.out.tr hx; clear O8 X16 hl7 hlt7 hx; have X16 := Hd x2; have O8 := Hd o8; clear x2 o8; refine kG hK (HS5.out _ X16.out) fun kh => ?_; (try simp only [kS]); refine rK [11] ?_; refine xK 11 (fun K hK => ?_) ?_
    {
    refine step_app tReached rfl rfl rfl (owns_ext R5.out X16.out) rfl (cs := [.int .i64 u.drive, .bool u.folder, .slice a5 n c5, .int .i64 u.fresh, .slice a8 (bl.length + 1) c8]) rfl (by omega) hc10 (by simp [Value.oneCell']) (by omega) (Nat.le_trans SZ5.out X16.out.size) ?_; intro v11 wv t1 t2 t3 t4; obtain ⟨a11, c11, hv11⟩ := row_form t1; subst hv11
    have hro2 : RoundOk p s (L ++ [⟨u, ak, (au:Int), i⟩]) := by
     have := RoundOk.fold (p := p) (s := s) (i := i) FT.out ((kindsR n).take (k + 1)) HRO.out hlt; rw [HNX.out] at this; exact this
    obtain ⟨hi6, mvu, mvb, mvk⟩ := LyI.add (nx := u) (k := ak) (u := (au:Int)) (i := i) (vu := .slice a5 n c5) (vb := .slice a8 (bl.length + 1) c8) HIB.out HROL.out hiL2 hro2.back HQ1.out HSB.out rfl HRB.out HEB.out BC2.out H5.out O5.out X16.out (UN5.out.ext X16.out) (by rw [HBY.out, acL_snoc]; exact owns_weak O8.out SZ5.out) t1 (only_grown t2)
    have ne2 : ∀ b, (Value.slice a11 (L.length + 1) c11).ownBlock = some b → b ≠ nb := fun b hb e => by
     rcases t3 with h3 | ⟨g, h3, h4⟩
     · rw [h3] at hb; exact NE.out b hb e
     { rw [h3] at hb; cases hb; have h5 := (NB5.out.ext X16.out).lt; omega }
    have nb6 := mvk NBB.out (fun e => NE.out nb e rfl); have ux6 := mvu UXB.out; have bx6 := mvb BXB.out; have qb6 := (QB5.out.ext X16.out).only (only_grown t2) (fun e => by obtain ⟨_, cs', h2⟩ := row_blk (owns_ext R5.out X16.out) qb e; exact absurd (blk_ty h2 (QB5.out.ext X16.out)) (by decide)); have ac6 := hi6.acts; rw [HNK.out] at ac6
    have hS6 : ((∀ j, wv.cell? ⟨qb, j, none⟩ = (#[.int .i64 u.drive, .bool u.folder, .slice a5 n c5, .int .i64 u.fresh] : Array Value)[j]?) ∧ wv.cell? ⟨gl, ol + k * 2, none⟩ = some (.int .i64 ak) ∧ wv.cell? ⟨gl, ol + k * 2 + 1, none⟩ = some (.int .i64 (au:Int))) :=
     ⟨qb6.cell, owns_pt ac6 _ _ (by rw [(acK_get _ _ hkk).1, HAK.out]), owns_pt ac6 _ _ (by rw [(acK_get _ _ hkk).2, HAK.out])⟩
    clear t1 t2 t3 t4 mvu mvb mvk ac6 qb6 hro2 hc10; have HS6 := Hd hS6; have HI6 := Hd hi6; have NE6 := Hd ne2; have NB6 := Hd nb6; have UX6 := Hd ux6; have BX6 := Hd bx6; clear hS6 hi6 ne2 nb6 ux6 bx6; refine kG hK HS6.out fun kh => ?_; (try simp only [kS]); refine rK [12] ?_; refine xK 12 (fun K hK => ?_) ?_
    {
    go_simp; refine kH hK rfl ?_; (try clear kh); (try simp only [kS]); refine dK ?_ _; go_wp2
    go_roundw
    case rel => exact ⟨k + 1, by omega, by go_num, by rw [HNX.out]; exact HI6, NB6, UX6, BX6, NE6⟩
    case measure => simp [intOf] <;> omega
    }
    exact nK
    }
    exact nK
    }
    exact nK
    }
    exact nK
    }
    exact nK
    }
    {
    rw [if_pos rfl] at hnx; have HNX := Hd hnx; clear hnx
    go_wp2_with (
     go_at_call 47; refine (HCO2.out _ (Below.refl _ _)).mono ?_; rintro e wA ⟨rfl, hx⟩; have bt2 := hx.cellSome bt; have hi4 := HI3.out.ext' hx; have nb4 := NB3.out.ext hx; have ux4 := UX3.out.ext hx; have bx4 := owns_ext BX3.out hx; clear bt c4 HI3 NB3 UX3 BX3 hx; have HI3 := Hd hi4; have NB3 := Hd nb4; have UX3 := Hd ux4; have BX3 := Hd bx4
     clear hi4 nb4 ux4 bx4)
    go_roundw
    case rel => exact ⟨k + 1, by omega, by go_num, by rw [HNX.out]; exact HI3, NB3, UX3, BX3, NE⟩
    case measure => simp [intOf] <;> omega
    }
    }
    {
    have f1 : (er != 0) = true := (by simp [h9]); have hnx := HFS.out; rw [if_neg h9] at hnx; clear h9; have HNX := Hd hnx; clear hnx; go_wp2
    go_roundw
    case rel => exact ⟨k + 1, by omega, by go_num, by rw [HNX.out]; exact HI3, NB3, UX3, BX3, NE⟩
    case measure => simp [intOf] <;> omega
    }
    }
    {
    have j1 : decide ((k:Int) < (nk:Int)) = false := decide_eq_false (by omega); obtain rfl : nk = k := by omega
    have hnxt : roundL p s (i + 1) = L := by
     have hlr : i < (roundL p s i).length := (by rw [HL0.out]; exact hlt); rw [round_next hlr, ← hL, List.take_of_length_le (by rw [HNK.out]; exact Nat.le_refl _)]
     have e1 : (roundL p s i)[i].at_ = t := by
      have := HXT.out; rw [← this]
      congr 2
     rw [e1, HL0.out, ← kindsR_fold, FTL.out]
    have hm' : ∀ m, m < i + 1 → m < (roundL p s m).length := fun m hm => by
     by_cases hmi : m = i
     · rw [hmi, HL0.out]; exact hlt
     · exact HM.out m (by omega)
    have hle' : i + 1 ≤ (roundL p s (i + 1)).length := (by rw [hnxt]; exact hiL2); have hi9 : LyI w.heap.size sb xb #[.slice aj n cj, .int .i64 p.warm, .int .i64 p.tail, .int .i64 p.dirt] (.slice al nk cl) n w p s (roundL p s (i + 1)) (.slice a7 L.length c7) wr := (by rw [hnxt]; exact hi2); have hi32 : i < 32768 := (by omega); clear hrow2 hel2 hi2 HM HLE hnxt; have HM2 := Hd hm'; have HLE2 := Hd hle'; have HI9 := Hd hi9; clear hm' hle' hi9; go_wp2
    go_roundw
    case rel => exact ⟨i + 1, by go_num, HM2, HLE2, HI9⟩
    case measure => simp [intOf] <;> omega
    }
  }
  {
  skip
  as_aux_lemma =>
   have hcl : closedL p s = L0 := by
    have h1 := closed_stop (p := p) (s := s) HG.out.dr HM.out (by rw [hL0]; omega); rw [h1]; exact hL0
   have j1 : decide ((i:Int) < (L0.length:Int)) = false := decide_eq_false (by omega); have lnw := hi0.ext.size; have xw := hi0.ext; clear hro hL0 hi0 HM HLE HI; have HCL := Hd hcl; have LNW := Hd lnw; have XW := Hd xw; have HEL := Hd hel; have HRW := Hd hrow; clear hcl lnw xw hel hrow
   go_upto_region 20 with (fail)
   clear j1
   go_loopw [15, 16, 17] (fun v15 v16 t17 wr => ∃ q : Nat, q ≤ L0.length ∧ t17 = .int .i64 q ∧ Hid (wr.ownsRow wo.heap.size 27 4 v15 q (stR fu L0 q)) ∧ Hid (wr.ownsRow wo.heap.size 30 1 v16 q ((List.range q).map fb)) ∧ Hid (Ext wo wr)) (fun _ _ t17 _ => L0.length - (intOf t17).toNat)
   case atStart => exact ⟨0, Nat.zero_le _, rfl, World.ownsRow_nil _ _ _ _, World.ownsRow_nil _ _ _ _, Below.refl _ _⟩
   case round =>
    obtain ⟨q, hq, rfl, HA, HB, HX⟩ := hrel; obtain ⟨a15, c15, rfl⟩ := row_form HA.out; obtain ⟨a16, c16, rfl⟩ := row_form HB.out
    by_cases hlq : q < L0.length
    {
    obtain ⟨g6, o6, rfl, hc6⟩ := row_cells HRW.out (by omega); have hcell := fun j hj => rcL_get fu fb L0 q j hlq hj; obtain ⟨hux, hbx⟩ := HEL.out q hlq; have hst := stR_succ fu L0 q hlq; have hfb : (List.range (q + 1)).map fb = (List.range q).map fb ++ [fb q] := (by rw [List.range_succ, List.map_append]; rfl); obtain ⟨x, hx⟩ : ∃ x, L0[q] = x := ⟨_, rfl⟩; rw [hx] at hux hcell hst; obtain ⟨t, tk, tu, tf⟩ := x; dsimp only at hux hst; obtain ⟨ta, tc, htv, _⟩ := hux.1.form; obtain ⟨nt, hnt⟩ : ∃ m, t.units.length = m := ⟨_, rfl⟩; rw [hnt] at htv; obtain ⟨ba, bc, hbv⟩ := row_form hbx; obtain ⟨nb, hnb⟩ : ∃ m, (byL L0 q).length = m := ⟨_, rfl⟩; rw [hnb] at hbv; rw [htv] at hst; rw [hbv] at hfb; rw [htv, hbv] at hcell; have d0 : wr.cell? ⟨g6, o6 + q * 5, none⟩ = some (.int .i64 t.drive) := HX.out.cellSome (hc6 _ _ (hcell 0 (by omega))); have d1 : wr.cell? ⟨g6, o6 + q * 5 + 1, none⟩ = some (.bool t.folder) := HX.out.cellSome (hc6 _ _ (hcell 1 (by omega))); have d2 : wr.cell? ⟨g6, o6 + q * 5 + 2, none⟩ = some (.slice ta nt tc) := HX.out.cellSome (hc6 _ _ (hcell 2 (by omega))); have d3 : wr.cell? ⟨g6, o6 + q * 5 + 3, none⟩ = some (.int .i64 t.fresh) := HX.out.cellSome (hc6 _ _ (hcell 3 (by omega))); have d4 : wo.cell? ⟨g6, o6 + q * 5 + 4, none⟩ = some (.slice ba nb bc) := hc6 _ _ (hcell 4 (by omega)); have i0 : (0:Int) ≤ (q:Int) := (by omega); have i1 : (q:Int) < (L0.length:Int) := (by omega); clear hc6 hcell htv hbv hx hux hbx hnt hnb; have HST := Hd hst; have HFB := Hd hfb; have D4 := Hd d4; clear hst hfb d4
    go_wp2_with (first
     | (at_builtin
        refine wpList_app (n := q) (m := 1) tStatesR rfl rfl (v := .slice a15 q c15) rfl (owns_ext HA.out (ext_lit _ _ _)) rfl (Src.lit _ [.int .i64 t.drive, .bool t.folder, .slice ta nt tc, .int .i64 t.fresh] 1 4 rfl 27 1) (by simp [Value.oneCell']) (by omega) (Nat.le_trans HX.out.size (by simp)) ?_; rintro v' w12 t1 t2 t3; have xt := (HX.out.tr (ext_lit wr _ _)).then_only (only_grown t2) (fun b hb => (HA.out.lt b hb).1); have hb2 := owns_only (owns_ext HB.out (ext_lit wr _ _)) (only_grown t2) (fun b hb hS => by obtain ⟨_, cs', h2⟩ := row_blk HB.out b hb; obtain ⟨_, cs3, h3⟩ := row_blk HA.out b hS; exact absurd (blk_ty h2 h3) (by decide)); rw [← HST.out] at t1; have d5 := xt.cellSome D4.out; clear d0 d1 d2 d3 HA HB HX t2 t3; have HA := Hd t1; have HB := Hd hb2; have HX := Hd xt
        clear t1 hb2 xt)
     | (at_builtin
        refine wpList_app (n := q) (m := 1) tProgsR rfl rfl (v := .slice a16 q c16) rfl (owns_ext HB.out (ext_lit _ _ _)) rfl (Src.lit _ [.slice ba nb bc] 1 1 rfl 30 1) (by simp [Value.oneCell']) (by omega) (Nat.le_trans HX.out.size (by simp)) ?_; rintro v'' w13 t1 t2 t3; have xt := (HX.out.tr (ext_lit w12 _ _)).then_only (only_grown t2) (fun b hb => (HB.out.lt b hb).1); have ha2 := owns_only (owns_ext HA.out (ext_lit w12 _ _)) (only_grown t2) (fun b hb hS => by obtain ⟨_, cs', h2⟩ := row_blk HA.out b hb; obtain ⟨_, cs3, h3⟩ := row_blk HB.out b hS; exact absurd (blk_ty h2 h3) (by decide)); rw [← HFB.out] at t1; clear d5 HA HB HX t2 t3; have HA := Hd ha2; have HB := Hd t1; have HX := Hd xt
        clear ha2 t1 xt))
    go_roundw
    case rel => exact ⟨q + 1, by omega, by go_num, HA, HB, HX⟩
    case measure => simp [intOf] <;> omega
    }
    {
    have i1 : decide ((q:Int) < (L0.length:Int)) = false := decide_eq_false (by omega); obtain rfl : q = L0.length := (by omega); go_wp2
    go_ret2
    refine ⟨_, _, rfl, ?_, XW.out.tr HX.out⟩; rw [HCL.out]; exact ⟨fu, fb, owns_weak HA.out LNW.out, owns_weak HB.out LNW.out, fun j hj => ⟨((HEL.out j hj).1.ext HX.out).1, owns_ext (HEL.out j hj).2 HX.out⟩⟩
    }
  }
end Go.Proofs.YtojobdffnnibaaaGreat