import Derived.Test.YtojobdffnnibaaaPLaw
import Derived.Test.YtojobdffnnibaaaPActs
/- A range over a function whose rounds are handed fresh memory, and whose body may return. -/
namespace Go.Proofs.Ytojobdffnnibaaa
open Go.RowKit Go.Shelf
set_option linter.unusedVariables false

/-- An iterator that hands over what lives (R) as long as what it reads is kept (M); a round may say: no more. -/
def IterStops {α σ : Type} (n : Nat) (P : Program) (g : Nat) (lb : Array Value) (encs : α → Array Value) (M : World → Prop) (R : α → World → Prop) (step : σ → α → σ) (s0 s1 : σ) (w : World) : Prop :=
  ∀ (l : Nat) (J : σ → World → Prop) (Jx : World → Prop) (W : World), Ext w W → (∀ s A B, J s A → Ext A B → J s B) → (∀ A B, Jx A → Ext A B → Jx B) → (∀ s A, J s A → M A) →
    (∀ s x A, J s A → R x A → YieldAt Fence.wide (n - 1) P l (encs x) A fun e A' => (e = .returned (.bool true) ∧ J (step s x) A') ∨ (e = .returned (.bool false) ∧ Jx A')) →
    J s0 W → CallsIn Fence.wide n P g (#[.func (.yield l) #[] #[]] ++ lb) W fun e W' => (∃ v, e = .returned v) ∧ (J s1 W' ∨ Jx W')

/-- How a round is left: off its end, or by a return. -/
def goesStops {σ : Type} (B : Nat) (I : σ → World → Prop) (Ix : World → Prop) (s : σ) (W : World) : Exit → Act → World → Prop
  | .normal, _, W' => KeepsFrom B W W' ∧ I s W'
  | .ret, _, W' => KeepsFrom B W W' ∧ Ix W'
  | _, _, _ => False

theorem wpIn_rangeStop {α σ : Type} {P : Program} {n : Nat} {g : Operand} {ps : Array Tmp} {assign body : Code} {Q : Exit → Act → World → Prop} {a : Act} {w : World} (h1 : 1 ≤ n)
    {gf : Nat} {lb : Array Value} (hg : a.eval g = .func (.func gf) #[] lb) (eg : ∀ args w, (callFunc gf args).run P w = .ok (.enter gf args) w)
    {encs : α → Array Value} {M : World → Prop} {R : α → World → Prop} {step : σ → α → σ} {s0 s1 : σ} {w0 : World} (hit : IterStops (n - 1) P gf lb encs M R step s0 s1 w0) (hx0 : Ext w0 w) (hps : ∀ x, (encs x).size = ps.size)
    (I : σ → World → Prop) (hI : OwnFrom w.heap.size I) (Ix : World → Prop) (hIx : OwnFrom w.heap.size (fun (_ : Unit) => Ix)) (hM : ∀ s A, I s A → M A) (h0 : I s0 w) (Ax : σ → α → Act → World → Prop) (hAx : ∀ s x, OwnFrom w.heap.size (Ax s x))
    (hassign : ∀ (l : Nat) (s : σ) (x : α) (W : World) (K : Act → World → Prop), I s W → R x W → (∀ a1 W1, KeepsFrom w.heap.size W W1 → Ax s x a1 W1 → K a1 W1) →
      assign.wpIn (Fence.wide.inRound l) (n - 1 - 1) P (Exit.then K (fun _ _ _ => False)) { tmps := (ps.zip (encs x)).foldl (fun t (p, v) => t.setIfInBounds p v) a.tmps, defers := [] } W)
    (hbody : ∀ (l : Nat) (s : σ) (x : α) (a1 : Act) (W : World), Ax s x a1 W → body.wpIn (Fence.wide.inRound l) (n - 1 - 1) P (goesStops w.heap.size I Ix (step s x) W) a1 W)
    (hdone : ∀ (D : Nat) (W : World), w.heap.size ≤ D → I s1 W → W.heap[D]? = some (.deferred (some [])) → Q .normal { a with defers := { target := .collected D, args := #[] } :: a.defers } W)
    (hstop : ∀ (D : Nat) (W : World), w.heap.size ≤ D → Ix W → W.heap[D]? = some (.deferred (some [])) → Code.ret.wpIn Fence.wide n P Q { a with defers := { target := .collected D, args := #[] } :: a.defers } W) :
    (Code.rangeFunc g ps assign body).wpIn Fence.wide n P Q a w := by
  refine wpIn_rangeFunc fun fn hfn => ?_
  obtain ⟨rec, hrec⟩ : ∃ rec : LoopState → Option Code → Loop, rec = fun st pe => { state := st, pending := pe, fn, tmps := a.tmps, params := ps, assign, body, defers := w.heap.size } := ⟨_, rfl⟩
  let l := w.heap.size + 1
  let W1 := (w.alloc (.deferred (some []))).alloc (.loop (rec .ready none))
  let J : σ → World → Prop := fun s W => I s W ∧ W.heap[l]? = some (.loop (rec .ready none)) ∧ W.heap[w.heap.size]? = some (.deferred (some []))
  let Jx : World → Prop := fun W => Ix W ∧ W.heap[l]? = some (.loop (rec .done (some .ret))) ∧ W.heap[w.heap.size]? = some (.deferred (some []))
  have hJ0 : J s0 W1 := by
    refine ⟨hI.alloc _ (hI.alloc _ h0), ?_, ?_⟩
    · have := World.alloc_heap_new (w.alloc (.deferred (some []))) (.loop (rec .ready none))
      rwa [World.size_alloc] at this
    · exact (Below.heap_alloc _ _ _ (by simp)).trans (World.alloc_heap_new w _)
  have hJx : ∀ s A B, J s A → Ext A B → J s B := fun s A B ⟨h2, h3, h4⟩ hx =>
    ⟨hI s A B none h2 (⟨hx.os, hx.tape, hx.output, hx.size, fun k hk _ => hx.block k hk⟩) (fun r e => by cases e), hx.blk h3, hx.blk h4⟩
  have hJy : ∀ A B, Jx A → Ext A B → Jx B := fun A B ⟨h2, h3, h4⟩ hx =>
    ⟨hIx () A B none h2 (⟨hx.os, hx.tape, hx.output, hx.size, fun k hk _ => hx.block k hk⟩) (fun r e => by cases e), hx.blk h3, hx.blk h4⟩
  have hx1 : Ext w0 W1 := (hx0.alloc _).alloc _
  refine ⟨l, [{ target := .collected w.heap.size, args := #[] }], W1, { target := .fn (.func gf) lb, args := #[.func (.yield l) #[] #[]] }, W1, gf, #[.func (.yield l) #[] #[]] ++ lb, W1, ?_, ?_, fun _ _ => trivial, ?_, fun _ => h1, ?_⟩
  · show _ = Result.ok _ ((w.alloc (.deferred (some []))).alloc (.loop (rec .ready none)))
    rw [hrec]; exact run_enterLoop_outer _ _ _ _ _
  · simp only [resolve, hg]; simp [go_sem]
  · simp [invoke, go_sem, eg]
  · refine (hit l J Jx W1 hx1 hJx hJy (fun s A h => hM s A h.1) ?_ hJ0).mono ?_
    · rintro s x A ⟨hi, hl, hk⟩ hr
      have hlt : l < A.heap.size := (Array.getElem?_eq_some_iff.1 hl).1
      have hy := run_yield (P := P) (args := encs x) hl (by rw [hrec]; exact hps x)
      rw [hrec] at hy
      refine ⟨fn, _, assign, body, hy, roundIn_of_wpIn hfn (hassign _ s x A _ hi hr fun a1 A1 hk1 ha1 => ?_)⟩
      clear hy
      replace hl := hk1.same _ _ (by omega) hl rfl
      replace hk := hk1.same _ _ (Nat.le_refl _) hk rfl
      have hlt : l < A1.heap.size := (Array.getElem?_eq_some_iff.1 hl).1
      refine ⟨_, run_beginRound hl (by rw [hrec]), ?_⟩
      clear hi hr hk1
      obtain ⟨A, rfl⟩ : ∃ W, W = A1 := ⟨A1, rfl⟩
      have hl2 : (A.putObj l (.loop { rec .ready none with state := .busy })).heap[l]? = some (.loop { rec .ready none with state := .busy }) := World.putObj_heap_same hlt
      have hk2 : (A.putObj l (.loop { rec .ready none with state := .busy })).heap[w.heap.size]? = some (.deferred (some [])) := (World.putObj_heap_other (by omega)).trans hk
      refine wpIn_mono (hbody l s x a1 _ ((hAx s x).putObj _ ha1 (by omega) hl rfl)) fun e a3 A3 hp => ?_
      have fin : ∀ (jump : Option Code) (W3 : World), KeepsFrom w.heap.size (A.putObj l (.loop { rec .ready none with state := .busy })) W3 →
          (Instr.endRound l jump).run P W3 = .ok (.bool jump.isNone) (W3.putObj l (.loop (rec (if jump.isNone then .ready else .done) jump))) ∧
          W3.heap[l]? = some (.loop { rec .ready none with state := .busy }) ∧
          (W3.putObj l (.loop (rec (if jump.isNone then .ready else .done) jump))).heap[l]? = some (.loop (rec (if jump.isNone then .ready else .done) jump)) ∧
          (W3.putObj l (.loop (rec (if jump.isNone then .ready else .done) jump))).heap[w.heap.size]? = some (.deferred (some [])) := fun jump W3 hk3 => by
        have hl3 := hk3.same _ _ (by omega) hl2 rfl
        have := run_endRound (P := P) jump hl3
        rw [hrec] at this ⊢
        exact ⟨this, by rw [hrec] at hl3; exact hl3, World.putObj_heap_same (Array.getElem?_eq_some_iff.1 hl3).1, (World.putObj_heap_other (by omega)).trans (hk3.same _ _ (Nat.le_refl _) hk2 rfl)⟩
      cases e with
      | normal =>
        obtain ⟨hk3, hi3⟩ := hp
        obtain ⟨hr, hl3, hl4, hk4⟩ := fin none A3 hk3
        exact ⟨_, _, hr, .inl ⟨rfl, hI.putObj _ hi3 (by omega) hl3 rfl, hl4, hk4⟩⟩
      | ret =>
        obtain ⟨hk3, hi3⟩ := hp
        obtain ⟨hr, hl3, hl4, hk4⟩ := fin (some .ret) A3 hk3
        exact ⟨_, _, hr, .inr ⟨rfl, hIx.putObj (s := ()) _ hi3 (by omega) hl3 rfl, hl4, hk4⟩⟩
      | exit id => exact hp.elim
      | goto t => exact hp.elim
      | panic ch => exact hp.elim
      | outgrown => exact hp.elim
    · rintro e W2 ⟨⟨v, rfl⟩, (⟨hi, hl, hk⟩ | ⟨hi, hl, hk⟩)⟩
      · exact ⟨none, _, by have := run_endLoop (P := P) hl (by rw [hrec]; simp); rw [hrec] at this; exact this, hdone _ _ (Nat.le_refl _) (hI.putObj _ hi (by omega) hl rfl) ((World.putObj_heap_other (by omega)).trans hk)⟩
      · exact ⟨some .ret, _, by have := run_endLoop (P := P) hl (by rw [hrec]; simp); rw [hrec] at this; exact this, hstop _ _ (Nat.le_refl _) (hIx.putObj (s := ()) _ hi (by omega) hl rfl) ((World.putObj_heap_other (by omega)).trans hk)⟩
end Go.Proofs.Ytojobdffnnibaaa

/- The actions that are allowed: the iterator's contract, where a round may end it. -/
namespace Go.Proofs.Ytojobdffnnibaaa
open Go.RowKit Go.Shelf
set_option linter.unusedVariables false
set_option linter.unusedSimpArgs false
attribute [local go_sem] Oper.semAt_some

/-- The actions of some that are allowed. -/
def allowL (p : PressD) (t : StD) (ls : List (Int × Nat)) : List (Int × Nat) := ls.filter fun a => decide (actErr p t a.1 a.2 = 0)
def aK (p : PressD) (t : StD) (k : Nat) : List (Int × Nat) := allowL p t ((List.range k).flatMap fun j => (List.range t.units.length).map fun u => (((j + 1 : Nat) : Int), u))
def aU (p : PressD) (t : StD) (k u : Nat) : List (Int × Nat) := aK p t k ++ allowL p t ((List.range u).map fun u => (((k + 1 : Nat) : Int), u))
theorem aU_zero (p : PressD) (t : StD) (k : Nat) : aU p t k 0 = aK p t k := by unfold aU allowL; simp
theorem aU_yes {p : PressD} {t : StD} {k u : Nat} (h : actErr p t ((k:Int) + 1) u = 0) : aU p t k (u + 1) = aU p t k u ++ [((k:Int) + 1, u)] := by
  unfold aU allowL
  rw [List.range_succ, List.map_append, List.filter_append, ← List.append_assoc]
  congr 1
  have hkc : ((k + 1 : Nat) : Int) = (k:Int) + 1 := by omega
  simp only [List.map_cons, List.map_nil, hkc]
  rw [List.filter_cons_of_pos (by simpa using h), List.filter_nil]
theorem aU_no {p : PressD} {t : StD} {k u : Nat} (h : actErr p t ((k:Int) + 1) u ≠ 0) : aU p t k (u + 1) = aU p t k u := by
  unfold aU allowL
  rw [List.range_succ, List.map_append, List.filter_append]
  have hkc : ((k + 1 : Nat) : Int) = (k:Int) + 1 := by omega
  simp only [List.map_cons, List.map_nil, hkc]
  rw [List.filter_cons_of_neg (by simpa using h), List.filter_nil, List.append_nil]
theorem aK_succ (p : PressD) (t : StD) (k : Nat) : aU p t k t.units.length = aK p t (k + 1) := by
  unfold aU aK allowL; rw [List.range_succ, List.flatMap_append, List.filter_append]; simp
theorem aK_end (p : PressD) (t : StD) : aK p t 12 = allowL p t (kindsD t.units.length) := rfl

set_option maxRecDepth 100000 in
set_option maxHeartbeats 4000000 in
theorem actions_stops (n : Nat) (hn : 1 ≤ n) {B mb pb ub c xb : Nat} {p : PressD} {t : StD} {vj : Value} (w : World) (hl : t.units.length ≤ 3) (hj : t.units.length = p.jam.length) (h0 : 0 < t.units.length) :
    IterStops n Try.prog 79 #[.pointer (some ⟨xb, 0, none⟩)] YA.args (LiveM B mb pb ub c xb p t vj) (LiveY B pb p t vj) (fun l x => l ++ [(x.kind, x.unit)]) [] (allowL p t (kindsD t.units.length)) w := by
  intro l J Jx W hxw hJx hJy hJM hY hJ0
  have hcl := fun W1 (h : MOw B W1 mb pb ub c p t vj) => clone_any t.units _ W1 (h.un (Nat.le_trans hl (by decide))) (Nat.le_trans hl (by decide))
  refine callsIn_wide.2 ?_
  have HXJ := Lib.hid hJx
  have HYJ := Lib.hid hJy
  have HJM := Lib.hid hJM
  have HY := Lib.hid hY
  have HL := Lib.hid hl
  have HJJ := Lib.hid hj
  have HP := Lib.hid h0
  have HCL := Lib.hid hcl
  have HXW := Lib.hid hxw
  clear hJx hJy hJM hY hl hj h0 hcl hxw
  go_enter Try.func79, Try.ntmps79
  go_upto_region 1 with (fail)
  go_loopw [3] (fun t3 wr => ∃ k : Nat, k ≤ 12 ∧ t3 = .int .i64 ((k:Int) + 1) ∧ Hid (J (aK p t k) wr)) (fun t3 _ => 13 - (intOf t3).toNat)
  case atStart => exact ⟨0, by omega, rfl, hJ0⟩
  case round =>
    obtain ⟨k, hk, rfl, HJ⟩ := hrel
    have hm := HJM.out _ _ HJ.out
    have d := hm.1.bm.cell
    have dx := hm.2.cell
    clear hm
    by_cases hlt : k < 12
    · have i1 : (k:Int) + 1 ≤ 12 := by omega
      go_upto_region 4 with (fail)
      clear d dx
      obtain ⟨wo, rfl⟩ : ∃ W, W = wr := ⟨wr, rfl⟩
      go_loopw [17] (fun t17 wr => ∃ u : Nat, u ≤ t.units.length ∧ t17 = .int .i64 u ∧ Hid (J (aU p t k u) wr)) (fun t17 _ => t.units.length - (intOf t17).toNat)
      case atStart => exact ⟨0, by omega, rfl, by rw [aU_zero]; exact HJ⟩
      case round =>
        obtain ⟨u, hu, rfl, HJ2⟩ := hrel
        have hub : u ≤ 3 := Nat.le_trans hu HL.out
        by_cases hlt2 : u < t.units.length
        · have hm := HJM.out _ _ HJ2.out
          have i3 : (u:Int) < (t.units.length:Int) := by omega
          go_upto_region 6 with (fail)
          try simp only [Act.put, List.setIfInBounds_toArray, List.set_cons_zero, List.set_cons_succ]
          go_cut [5] (fun v W => ∃ nb, v = .pointer (some ⟨nb, 0, none⟩) ∧ Hid (Blk W nb #[.pointer (some ⟨pb, 0, none⟩), .int .i64 t.drive, .bool t.folder, .slice (some ⟨ub, 0, none⟩) t.units.length c, .int .i64 t.fresh] 104) ∧ Hid (wr.heap.size ≤ nb) ∧ Hid (Ext wr W))
          case first =>
            as_aux_lemma =>
              have d := hm.1.bm.cell
              have dx := hm.2.cell
              have hS : ∀ W, Ext wr W → ((∀ j, W.cell? ⟨mb, j, none⟩ = (#[.pointer (some ⟨pb, 0, none⟩), .int .i64 t.drive, .bool t.folder, .slice (some ⟨ub, 0, none⟩) t.units.length c, .int .i64 t.fresh] : Array Value)[j]?) ∧ (∀ j, W.cell? ⟨xb, j, none⟩ = (#[.pointer (some ⟨mb, 0, none⟩)] : Array Value)[j]?)) := fun W hx => ⟨(hm.1.ext hx).bm.cell, (hm.2.ext hx).cell⟩
              clear d dx hm
              go_region_held3 (fun wx => (∀ j, wx.cell? ⟨mb, j, none⟩ = (#[.pointer (some ⟨pb, 0, none⟩), .int .i64 t.drive, .bool t.folder, .slice (some ⟨ub, 0, none⟩) t.units.length c, .int .i64 t.fresh] : Array Value)[j]?) ∧ (∀ j, wx.cell? ⟨xb, j, none⟩ = (#[.pointer (some ⟨mb, 0, none⟩)] : Array Value)[j]?)) ((first | exact hS _ (Below.refl _ wr).drew | exact hS _ (ext_lit wr _ _).drew)) ((fail))
              have hnb := newB wr #[.pointer (some ⟨pb, 0, none⟩), .int .i64 t.drive, .bool t.folder, .slice (some ⟨ub, 0, none⟩) t.units.length c, .int .i64 t.fresh] 104
              have hd : ∀ W : World, Ext W W.drew := fun W => (Below.refl _ W).drew
              have HNB := Lib.hid hnb
              have HD := Lib.hid hd
              clear hnb hd
              go_wp2
              go_meet
              case rel => exact ⟨wr.heap.size, rfl, Blk.ext HNB.out.1 (HD.out _), Nat.le_refl _, Ext.tr HNB.out.2.1 (HD.out _)⟩
          case rest =>
          obtain ⟨nb, rfl, NB, LN, X1⟩ := hcut
          obtain ⟨w2, rfl⟩ : ∃ W, W = wc := ⟨wc, rfl⟩
          have hm2 := hm.1.ext X1.out
          have d := hm2.bm.cell
          have dx := (hm.2.ext X1.out).cell
          have dn := NB.out.cell
          have hc2 := HCL.out _ hm2
          have hxm := hm.2
          clear hm
          have HM := Lib.hid hm2
          have HC := Lib.hid hc2
          have XM := Lib.hid hxm
          clear hm2 hc2 hxm
          go_upto_region 9 with (first
            | (go_at_call 65
               refine HC.out.mono ?_
               rintro e w3 ⟨v, rfl, hown, hx3⟩
               obtain ⟨u2, c2, hv2⟩ := row_pos hown HP.out
               subst hv2
               have nb2 := NB.out.ext hx3
               have hm2 := HM.out.ext hx3
               have x2 := X1.out.tr hx3
               have hlw := X1.out.size
               have hnu : u2 ≠ nb := fun e => by have h1 := (hown.lt u2 rfl).1; have h2 := NB.out.lt; omega
               have ho2 := owns_weak hown hlw
               clear d dx dn NB HM X1 HC hx3 hown hlw
               have dn := nb2.cell
               have NB := Lib.hid nb2
               have HM := Lib.hid hm2
               have X1 := Lib.hid x2
               have HO := Lib.hid ho2
               have HNU := Lib.hid hnu
               clear nb2 hm2 x2 ho2 hnu)
            | (with_reducible refine wpList_setK (b := nb) (i := 3) (v := .slice (some ⟨u2, 0, none⟩) t.units.length c2) rfl rfl NB.out ?_ ?_ ?_ ?_ ?_ ?_ ?_
               · rfl
               · rfl
               · simp
               · kernel_rfl
               · rfl
               · rfl
               rintro w4 hb4 ho4
               have hb5 : Blk w4 nb #[.pointer (some ⟨pb, 0, none⟩), .int .i64 t.drive, .bool t.folder, .slice (some ⟨u2, 0, none⟩) t.units.length c2, .int .i64 t.fresh] 104 := hb4
               have x2 := X1.out.then_only ho4 (fun b (e : b = nb) => by rw [e]; exact LN.out)
               have ho2 := owns_only HO.out ho4 (fun b hb (e : b = nb) => by cases hb; exact HNU.out e)
               clear dn NB HM X1 HO hb4 ho4
               have NB := Lib.hid hb5
               have X1 := Lib.hid x2
               have HO := Lib.hid ho2
               clear hb5 x2 ho2)
            | (with_reducible refine wpList_allocA (t := 63) rfl rfl Try.zeroValue63 ?_
               rintro ab w5 hz1 hz2 hz3
               have nb2 := NB.out.ext hz2
               have x2 := X1.out.tr hz2
               have ho2 := owns_ext HO.out hz2
               have la : wr.heap.size ≤ ab := Nat.le_trans X1.out.size hz3
               have hna : nb ≠ ab := fun e => by have := NB.out.lt; omega
               have hua : u2 ≠ ab := fun e => by have := (HO.out.lt u2 rfl).2; omega
               clear NB X1 HO hz2 hz3
               have NB := Lib.hid nb2
               have X1 := Lib.hid x2
               have HO := Lib.hid ho2
               have AB := Lib.hid hz1
               have LA := Lib.hid la
               have HNA := Lib.hid hna
               have HUA := Lib.hid hua
               clear nb2 x2 ho2 hz1 la hna hua)
            | (with_reducible refine wpList_storeK (ty := 63) (cells := #[.int .i64 ((k:Int) + 1), .int .i64 u]) rfl rfl AB.out ?_ ?_ ?_ ?_ ?_ ?_
               · rfl
               · rfl
               · kernel_rfl
               · rfl
               · simp [Value.oneCell']
               rintro w6 hb6 ho6
               have nb2 := NB.out.only ho6 HNA.out
               have x2 := X1.out.then_only ho6 (fun k (e : k = ab) => by rw [e]; exact LA.out)
               have ho2 := owns_only HO.out ho6 (fun b hb (e : b = ab) => by cases hb; exact HUA.out e)
               have da := hb6.cell
               clear NB X1 HO AB ho6
               have NB := Lib.hid nb2
               have X1 := Lib.hid x2
               have HO := Lib.hid ho2
               have AB := Lib.hid hb6
               clear nb2 x2 ho2 hb6))
          have hmw := (HJM.out _ _ HJ2.out).1
          have hBw : B ≤ wr.heap.size := by have := hmw.lm; have := hmw.bm.lt; omega
          have hln := LN.out
          have hmn := MOw.fresh (hmw.ext X1.out) NB.out HO.out hBw (Nat.le_trans hBw hln) HP.out
          have hlu : wr.heap.size ≤ u2 := (HO.out.lt u2 rfl).1
          have hact := act_any ((k:Int) + 1) (u:Int) hmn HL.out HJJ.out (by unfold I64; omega)
          obtain ⟨er, her⟩ : ∃ x, actErr p t ((k:Int) + 1) u = x := ⟨_, rfl⟩
          unfold ActPost at hact
          rw [her] at hact
          have hj1 : ∀ w7, Only (fun b => b = nb ∨ b = u2) w6 w7 → Ext wr w7 := fun w7 ho => X1.out.then_only ho (fun b e => by rcases e with e | e <;> omega)
          have hkc : ((k + 1 : Nat) : Int) = (k:Int) + 1 := by omega
          clear hmw hmn hBw hln hlu
          have HACT := Lib.hid hact
          have HJ1 := Lib.hid hj1
          clear hact hj1
          by_cases he0 : er = 0
          · subst he0
            have hadd : aU p t k (u + 1) = aU p t k u ++ [((k:Int) + 1, u)] := aU_yes her
            have HADD := Lib.hid hadd
            have HER := Lib.hid her
            clear hadd her
            clear hkc
            refine (wpIn_wide (n := n)).1 ?_
            gi_wp2_with (
              refine ⟨trivial, ?_⟩
              gi_at_call 47
              refine (callsIn_wide.2 HACT.out).mono ?_
              rintro e w7 ⟨rfl, hm7, ho7⟩
              have hx7 := HJ1.out _ ho7
              have hlive : LiveY B pb p t vj ⟨(k:Int) + 1, u, nb, u2, c2, actD p t ((k:Int) + 1) u⟩ w7 := ⟨hm7, HER.out, rfl, ⟨by dsimp only; omega, by dsimp only; omega⟩, hlt2⟩
              have hab7 := AB.out.only ho7 (fun h => h.elim (fun e => HNA.out e.symm) (fun e => HUA.out e.symm))
              obtain ⟨fn, tmps, assign, body, hy, hR⟩ := HY.out _ ⟨(k:Int) + 1, u, nb, u2, c2, actD p t ((k:Int) + 1) u⟩ w7 (HXJ.out _ _ _ HJ2.out hx7) hlive
              unfold YA.args at hy
              dsimp only at hy
              clear da
              have da := hab7.cell
              have HYR := Lib.hid hR
              clear hR
              clear hm7 ho7 hx7 hlive hab7)
            refine HYR.out.mono ?_
            rintro e w8 (⟨rfl, hj8⟩ | ⟨rfl, hj8⟩)
            · rw [← HADD.out] at hj8
              have HJ8 := Lib.hid hj8
              clear hj8
              gi_wp2
              go_wp2
              go_roundw
              case rel => exact ⟨u + 1, by omega, by go_num, HJ8⟩
              case measure => first | (simp [intOf]; done) | (simp [intOf]; omega)
            · have hjz := hj8
              have HJ8 := Lib.hid hjz
              clear hjz
              gi_wp2
              go_wp2
              refine bodyPost_ret (v := .tuple #[]) (by simp [results, Try.results79, go_sem]) rfl ?_
              exact ⟨⟨_, rfl⟩, .inr HJ8.out⟩
          · have e0 : (er == 0) = false := by simpa using he0
            have hno : aU p t k (u + 1) = aU p t k u := aU_no (by rw [her]; exact he0)
            have HNO := Lib.hid hno
            clear hno
            clear hkc her
            go_wp2_with (
              go_at_call 47
              refine HACT.out.mono ?_
              rintro e w7 ⟨rfl, hm7, ho7⟩
              have hx7 := HJ1.out _ ho7
              have hj7 := HXJ.out _ _ _ HJ2.out hx7
              clear hm7 ho7 hx7 da
              have HJ7 := Lib.hid hj7
              clear hj7)
            go_roundw
            case rel => exact ⟨u + 1, by omega, by go_num, by rw [HNO.out]; exact HJ7⟩
            case measure => first | (simp [intOf]; done) | (simp [intOf]; omega)
        · have i3 : decide ((u:Int) < (t.units.length:Int)) = false := decide_eq_false (by omega)
          obtain rfl : u = t.units.length := by omega
          have hj := HJ2.out
          rw [aK_succ] at hj
          have HJ3 := Lib.hid hj
          clear hj
          go_wp2
          go_roundw
          case rel => exact ⟨k + 1, by omega, by go_num, HJ3⟩
          case measure => first | (simp [intOf]; done) | (simp [intOf]; omega)
    · have i1 : decide ((k:Int) + 1 ≤ 12) = false := decide_eq_false (by omega)
      obtain rfl : k = 12 := by omega
      have hj := HJ.out
      rw [aK_end] at hj
      have HJ3 := Lib.hid hj
      clear hj
      go_wp2
      refine Great.bodyPost_end0 rfl rfl ?_
      exact ⟨⟨_, rfl⟩, .inl HJ3.out⟩
end Go.Proofs.Ytojobdffnnibaaa
