/- Payments that clear balances: Clear of the program. -/
import Derived.Test.YtekplfbfkfiabaaClrB
import Derived.Test.YtekplfbfkfiabaaBkGrp
namespace Go.Proofs.Ytekplfbfkfiabaa
open Go.RowKit Go.Shelf
set_option linter.unusedVariables false
set_option linter.unusedSimpArgs false
attribute [local go_sem] Oper.semAt_some

theorem tPays : SliceT Try.prog 30 41 (.agg #[.int .i64 0, .int .i64 0, .int .i64 0]) 3 24 := ⟨by kernel_rfl, by kernel_rfl, rfl, by decide, by decide⟩
def payC (p : PayD) : List Value := [.int .i64 (p.from_ : Int), .int .i64 (p.to_ : Int), .int .i64 p.n]
def vLen : Value → Nat
  | .slice _ n _ => n
  | _ => 0
def payN (left : List Int) (a b : Nat) : Int := min (-(gI left a)) (gI left b)
theorem firstC_some {left G : List Int} {num : Int} {owes : Bool} {a : Nat} (h : firstC left G num owes = some a) : a < left.length ∧ okC left G num owes a = true := by
  obtain ⟨h1, h2, h3⟩ := firstI_ge _ _ _ h
  exact ⟨by omega, h3⟩
theorem firstC_owes {left G : List Int} {num : Int} {a : Nat} (h : firstC left G num true = some a) : a < left.length ∧ gI left a < 0 := by
  obtain ⟨h1, h2⟩ := firstC_some h
  refine ⟨h1, ?_⟩
  unfold okC at h2
  simp at h2
  exact h2.2
theorem firstC_owed {left G : List Int} {num : Int} {a : Nat} (h : firstC left G num false = some a) : a < left.length ∧ 0 < gI left a := by
  obtain ⟨h1, h2⟩ := firstC_some h
  refine ⟨h1, ?_⟩
  unfold okC at h2
  simp at h2
  exact h2.2
theorem clrIn_none {G : List Int} {num : Int} {f : Nat} {left : List Int} {out : List PayD} {r : List Int × List PayD} (h : clrIn G num f left out = some r) (h1 : firstC left G num true = none) : r = (left, out) := by
  cases f with
  | zero => cases h
  | succ f => unfold clrIn at h; rw [h1] at h; cases h; rfl
theorem clrIn_some {G : List Int} {num : Int} {f : Nat} {left : List Int} {out : List PayD} {r : List Int × List PayD} {a : Nat} (h : clrIn G num f left out = some r) (h1 : firstC left G num true = some a) :
    ∃ f' b, f = f' + 1 ∧ firstC left G num false = some b ∧ clrIn G num f' ((left.set a (gI left a + payN left a b)).set b (gI left b - payN left a b)) (out ++ [⟨a, b, payN left a b⟩]) = some r := by
  cases f with
  | zero => cases h
  | succ f =>
    unfold clrIn at h
    rw [h1] at h
    dsimp only at h
    cases h2 : firstC left G num false with
    | none => rw [h2] at h; cases h
    | some b =>
      rw [h2] at h
      dsimp only at h
      have h3 := (firstC_owes h1).2
      have h4 := (firstC_owed h2).2
      have hne : b ≠ a := fun e => by subst e; omega
      rw [gI_setO _ hne] at h
      exact ⟨f, b, rfl, rfl, h⟩
theorem clrIn_len {G : List Int} {num : Int} : ∀ (f : Nat) (left : List Int) (out : List PayD) (r : List Int × List PayD), clrIn G num f left out = some r → out.length ≤ r.2.length ∧ r.2.length ≤ out.length + f
  | 0, left, out, r, h => by cases h
  | f + 1, left, out, r, h => by
    cases h1 : firstC left G num true with
    | none => have e := clrIn_none h h1; subst e; exact ⟨Nat.le_refl _, Nat.le_add_right _ _⟩
    | some a =>
      obtain ⟨f', b, hf, _, h2⟩ := clrIn_some h h1
      have e : f' = f := by omega
      subst e
      have := clrIn_len f' _ _ r h2
      simp at this
      omega
theorem clrN_len {G : List Int} : ∀ (r k : Nat) (left : List Int) (out o : List PayD), clrN G r k left out = some o → out.length ≤ o.length ∧ o.length ≤ out.length + 25 * r
  | 0, k, left, out, o, h => by cases h; exact ⟨Nat.le_refl _, by omega⟩
  | r + 1, k, left, out, o, h => by
    unfold clrN at h
    split at h
    · cases h
    · rename_i l2 o2 h2
      have h3 := clrIn_len _ _ _ _ h2
      have h4 := clrN_len r (k + 1) l2 o2 o h
      dsimp only at h3
      omega
theorem clrN_succ {G : List Int} {r k : Nat} {left : List Int} {out o : List PayD} (h : clrN G (r + 1) k left out = some o) : ∃ l2 o2, clrIn G k 25 left out = some (l2, o2) ∧ clrN G r (k + 1) l2 o2 = some o := by
  unfold clrN at h
  split at h
  · cases h
  · rename_i l2 o2 h2
    exact ⟨l2, o2, h2, h⟩
theorem payN_range {left : List Int} {a b : Nat} (hs : Small 1000000000 left) (ha : gI left a < 0) (hb : 0 < gI left b) : 1 ≤ payN left a b ∧ payN left a b ≤ 1000000000 ∧ payN left a b ≤ -(gI left a) ∧ payN left a b ≤ gI left b := by
  have h1 := gI_small hs (by omega) a
  have h2 := gI_small hs (by omega) b
  unfold payN
  omega

/-- What Clear keeps in memory. -/
structure CM (w W : World) (lb gb pl g cap N : Nat) (left G : List Int) (v : Value) (out : List PayD) : Prop where
  hl : Blk W lb #[.slice (some ⟨pl, 0, none⟩) N cap] 22
  hg : Blk W gb #[.slice (some ⟨g, 0, none⟩) N N] 22
  row : RowI W pl left
  rg : Blk W g (iA G) 3
  o : W.ownsRow w.heap.size 41 3 v out.length (out.flatMap payC)
  ne : pl ≠ lb ∧ pl ≠ gb ∧ pl ≠ g
  nv : ∀ b, v.ownBlock = some b → b ≠ pl ∧ b ≠ lb ∧ b ≠ gb ∧ b ≠ g
  ll : left.length = N
  lg : G.length = N
  sm : Small 1000000000 left
  x : Ext w W
  far : w.heap.size ≤ pl
section
variable {w W W' : World} {lb gb pl g cap N : Nat} {left G : List Int} {v : Value} {out : List PayD}
theorem CM.ext (h : CM w W lb gb pl g cap N left G v out) (k : Ext W W') : CM w W' lb gb pl g cap N left G v out :=
  ⟨h.hl.ext k, h.hg.ext k, h.row.ext k, h.rg.ext k, owns_ext h.o k, h.ne, h.nv, h.ll, h.lg, h.sm, h.x.tr k, h.far⟩
theorem CM.put {left' : List Int} (h : CM w W lb gb pl g cap N left G v out) (hr : RowI W' pl left') (ho : Only (fun q => q = pl) W W') (hl : left'.length = left.length) (hs : Small 1000000000 left') : CM w W' lb gb pl g cap N left' G v out :=
  ⟨h.hl.only ho (fun e => h.ne.1 e.symm), h.hg.only ho (fun e => h.ne.2.1 e.symm), hr, h.rg.only ho (fun e => h.ne.2.2 e.symm), owns_only h.o ho (fun b hb e => (h.nv b hb).1 e), h.ne, h.nv, by rw [hl]; exact h.ll, h.lg, hs, h.x.then_only ho (fun q e => by rw [e]; exact h.far), h.far⟩
theorem CM.grow {v' : Value} {p : PayD} (h : CM w W lb gb pl g cap N left G v out) (h1 : W'.ownsRow w.heap.size 41 3 v' (out.length + 1) (out.flatMap payC ++ payC p)) (hg : W.grownBy W' v.ownBlock) (hf : FreshOr W v v') : CM w W' lb gb pl g cap N left G v' (out ++ [p]) := by
  have ho := only_grown hg
  have nn : ∀ b, v'.ownBlock = some b → v.ownBlock = some b ∨ W.heap.size ≤ b := fun b hb => by
    rcases hf with hf | ⟨q, hq, hl⟩
    · exact .inl (hf ▸ hb)
    · rw [hq] at hb; cases hb; exact .inr hl
  refine ⟨h.hl.only ho (fun e => (h.nv _ e).2.1 rfl), h.hg.only ho (fun e => (h.nv _ e).2.2.1 rfl), h.row.only ho (fun e => (h.nv _ e).1 rfl), h.rg.only ho (fun e => (h.nv _ e).2.2.2 rfl), ?_, h.ne, fun b hb => ?_, h.ll, h.lg, h.sm, ext_grown h.x h.o hg, h.far⟩
  · rw [List.length_append, List.flatMap_append]; simpa using h1
  · rcases nn b hb with h2 | h2
    · exact h.nv b h2
    · have := h.hl.lt; have := h.hg.lt; have := h.row.lt; have := h.rg.lt
      exact ⟨by omega, by omega, by omega, by omega⟩
end
/-- The same with the box of the group's number. -/
structure CN (w W : World) (lb gb pl g cap N nb : Nat) (k : Int) (left G : List Int) (v : Value) (out : List PayD) : Prop where
  c : CM w W lb gb pl g cap N left G v out
  hn : Blk W nb #[.int .i64 k] 3
  np : nb ≠ pl
  nn : ∀ b, v.ownBlock = some b → b ≠ nb
section
variable {w W W' : World} {lb gb pl g cap N nb : Nat} {k : Int} {left G : List Int} {v : Value} {out : List PayD}
theorem CN.ext (h : CN w W lb gb pl g cap N nb k left G v out) (x : Ext W W') : CN w W' lb gb pl g cap N nb k left G v out := ⟨h.c.ext x, h.hn.ext x, h.np, h.nn⟩
theorem CN.put {left' : List Int} (h : CN w W lb gb pl g cap N nb k left G v out) (hr : RowI W' pl left') (ho : Only (fun q => q = pl) W W') (hl : left'.length = left.length) (hs : Small 1000000000 left') : CN w W' lb gb pl g cap N nb k left' G v out :=
  ⟨h.c.put hr ho hl hs, h.hn.only ho h.np, h.np, h.nn⟩
theorem CN.grow {v' : Value} {p : PayD} (h : CN w W lb gb pl g cap N nb k left G v out) (h1 : W'.ownsRow w.heap.size 41 3 v' (out.length + 1) (out.flatMap payC ++ payC p)) (hg : W.grownBy W' v.ownBlock) (hf : FreshOr W v v') : CN w W' lb gb pl g cap N nb k left G v' (out ++ [p]) := by
  refine ⟨h.c.grow h1 hg hf, h.hn.only (only_grown hg) (fun e => h.nn _ e rfl), h.np, fun b hb => ?_⟩
  rcases hf with hf | ⟨q, hq, hl⟩
  · exact h.nn b (hf ▸ hb)
  · rw [hq] at hb; cases hb
    have := h.hn.lt
    omega
theorem CN.first (h : CN w W lb gb pl g cap N nb k left G v out) (hN : N ≤ 1000) (owes : Bool) :
    Calls Try.prog 62 #[.bool owes, .pointer (some ⟨lb, 0, none⟩), .pointer (some ⟨gb, 0, none⟩), .pointer (some ⟨nb, 0, none⟩)] W (FirstPost left G k owes W) := by
  have h1 := h.c.ll
  have h2 := h.c.lg
  have h3 := h.c.row.ints cap (by omega)
  rw [h1] at h3
  exact first_any left G k owes lb gb nb _ _ W h.c.hl h.c.hg h.hn h3 (h.c.rg.ints h2 (by omega)) (by omega) (by omega)
end
def ClearPost (w : World) (l : List Int) (e : Ending) (w' : World) : Prop :=
  ∃ v, e = .returned (.tuple #[v, .int .i64 (groupsE l)]) ∧ Ext w w' ∧
    ((groupsE l ≠ 0 ∧ v = .slice none 0 0) ∨ (groupsE l = 0 ∧ ∃ G out, groupsP l = some G ∧ clearP l G = some out ∧ out.length ≤ 25 * l.length ∧ w'.ownsRow w.heap.size 41 3 v out.length (out.flatMap payC)))
theorem small_of_ok {l : List Int} (h : groupsE l = 0) : Small 1000000000 l := by
  rcases groupsE_ways l with ⟨_, h1⟩ | ⟨_, ⟨_, h1⟩ | ⟨h2, _⟩⟩
  · rw [h1] at h; cases h
  · rw [h1] at h; cases h
  · exact badN_ok h2

set_option maxRecDepth 100000 in
set_option maxHeartbeats 8000000 in
theorem clear_any (l : List Int) (vl : Value) (w : World) (hv : Ints w vl l) (hu : ∀ u ∈ l, I64 u) (hl : l.length ≤ 1000) (h0 : 0 < l.length) (hG : groupsE l = 0 → ∃ G out, groupsP l = some G ∧ clearP l G = some out) :
    Calls Try.prog 21 #[vl] w (ClearPost w l) := by
  have hp : ∀ e w', ClearPost w l e w' → ClearPost w l e w' := fun _ _ h => h
  have hgr := groups_any l vl w hv hu hl h0 (fun h => by obtain ⟨G, o, h1, _⟩ := hG h; rw [h1]; rfl)
  have hcl := fun w2 (hx : Ext w w2) => clone_any l vl w2 (hv.ext hx) (by omega)
  obtain ⟨er, her⟩ : ∃ er, er = groupsE l := ⟨_, rfl⟩
  obtain ⟨al, cl, rfl, HV⟩ := hv.form
  clear hv
  by_cases q0 : er = 0
  · have hne : (er != 0) = false := by simpa using q0
    have hsm := small_of_ok (her.symm.trans q0)
    obtain ⟨G, oF, hgp, hcp⟩ := hG (her.symm.trans q0)
    obtain ⟨N, hN⟩ : ∃ N, N = l.length := ⟨_, rfl⟩
    have HNP : Hid (∀ e w1, GroupsPost w l e w1 → ∃ g, e = .returned (.tuple #[.slice (some ⟨g, 0, none⟩) N N, .int .i64 0]) ∧ Ext w w1 ∧ w.heap.size ≤ g ∧ G.length = N ∧ Blk w1 g (iA G) 3) := fun e w1 ⟨v, h1, h2, h3⟩ => by
      rw [← her] at h1 h3
      rcases h3 with ⟨h3, _⟩ | ⟨_, g, o, h4, h5, h6, h7, h8⟩
      · exact absurd q0 h3
      · rw [hgp] at h6; cases h6
        exact ⟨g, by rw [h1, h4, q0, hN], h2, h5, by rw [hN]; exact h7, h8⟩
    have HE := Lib.hid (her.symm.trans q0)
    have hcN : clrN G (N - 0) 0 l [] = some oF := by
      have h := hcp
      unfold clearP at h
      rw [← hN] at h
      exact h
    have hoF := clrN_len _ _ _ _ _ hcN
    have HFO := Lib.hid (show oF.length ≤ 25 * l.length by have := hoF.2; rw [hN] at this; simpa using this)
    have HP := Lib.hid hp
    have HGP := Lib.hid hgp
    have HCP := Lib.hid hcp
    have HCN := Lib.hid hcN
    have HSM := Lib.hid hsm
    clear hp hgp hcp hcN hsm
    rw [← hN] at HV hl h0 hgr
    have hcl2 : ∀ w2, Ext w w2 → Calls Try.prog 61 #[.slice al N cl] w2 fun e w' => ∃ pl cap, e = .returned (.slice (some ⟨pl, 0, none⟩) N cap) ∧ Ext w2 w' ∧ w2.heap.size ≤ pl ∧ RowI w' pl l := fun w2 hx => by
      have h := hcl w2 hx
      rw [← hN] at h
      refine h.mono fun e w' ⟨v, h1, h2, h3⟩ => ?_
      rw [hN] at h3
      obtain ⟨pl, cap, hv4, hpl, hrow⟩ := RowI.of_owns h3 (by rw [← hN]; exact h0)
      exact ⟨pl, cap, by rw [h1, hv4, hN], h2, hpl, hrow⟩
    rw [← hN]
    have hN10 : oF.length ≤ 25000 := by have := HFO.out; omega
    have HNL := Lib.hid hN
    have HGR := Lib.hid hgr
    have HCL := Lib.hid hcl2
    clear hgr hcl2
    clear hoF q0 her hne hu hG hN hcl
    go_enter Try.func21, Try.ntmps21
    go_upto_region 5 with (first
      | (go_at_call 19
         refine HGR.out.mono ?_
         rintro e w1 hgp
         obtain ⟨g, rfl, hx1, hlg, hgl, hbg⟩ := HNP.out e w1 hgp
         clear hgp
         have X := Lib.hid hx1
         have LG := Lib.hid hlg
         have GL := Lib.hid hgl
         have RG := Lib.hid hbg
         clear hx1 hlg hgl hbg)
      | (with_reducible refine wpList_alloc1 rfl rfl Try.zeroValue22 rfl ?_
         rintro gb w2 hb2 hx2 hl2
         have nge : g < gb := Nat.lt_of_lt_of_le RG.out.lt hl2
         have lgb := Nat.le_trans X.out.size hl2
         replace X := Lib.hid (X.out.ext hx2)
         replace RG := Lib.hid (RG.out.ext hx2)
         have GB := Lib.hid hb2
         have NGE := Lib.hid nge
         have LGB := Lib.hid lgb
         clear hb2 nge lgb
         clear hx2 hl2)
      | (with_reducible refine wpList_setK (i := 0) (v := .slice (some ⟨g, 0, none⟩) N N) rfl rfl GB.out ?_ ?_ ?_ ?_ ?_ ?_ ?_
         · rfl
         · rfl
         · show 0 < 1; omega
         · kernel_rfl
         · rfl
         · rfl
         rintro w3 hb3 ho3
         have hb4 : Blk w3 gb #[.slice (some ⟨g, 0, none⟩) N N] 22 := hb3
         have hrg := RG.out.only ho3 (fun e => by have := NGE.out; omega)
         have hx3 := X.out.then_only ho3 (fun q e => by rw [e]; exact LGB.out)
         clear GB RG X hb3 ho3
         have GB := Lib.hid hb4
         have RG := Lib.hid hrg
         have X := Lib.hid hx3
         clear hb4 hrg hx3))
    go_upto_region 7 with (first
      | (go_at_call 61
         refine (HCL.out _ X.out).mono ?_
         rintro e w4 ⟨pl, cap, rfl, hx4, hpl, hrow⟩
         have lpl := Nat.le_trans X.out.size hpl
         have npl : g < pl ∧ gb < pl := ⟨Nat.lt_of_lt_of_le RG.out.lt hpl, Nat.lt_of_lt_of_le GB.out.lt hpl⟩
         replace X := Lib.hid (X.out.ext hx4)
         replace RG := Lib.hid (RG.out.ext hx4)
         replace GB := Lib.hid (GB.out.ext hx4)
         have ROW := Lib.hid hrow
         have LPL := Lib.hid lpl
         have NPL := Lib.hid npl
         clear hrow lpl npl
         clear hx4 hpl)
      | (with_reducible refine wpList_alloc1 rfl rfl Try.zeroValue22 rfl ?_
         rintro lb w5 hb5 hx5 hl5
         have nlb : pl < lb ∧ gb < lb := ⟨Nat.lt_of_lt_of_le ROW.out.lt hl5, Nat.lt_of_lt_of_le GB.out.lt hl5⟩
         have llb := Nat.le_trans X.out.size hl5
         replace X := Lib.hid (X.out.ext hx5)
         replace RG := Lib.hid (RG.out.ext hx5)
         replace GB := Lib.hid (GB.out.ext hx5)
         replace ROW := Lib.hid (ROW.out.ext hx5)
         have LB := Lib.hid hb5
         have NLB := Lib.hid nlb
         have LLB := Lib.hid llb
         clear hb5 nlb llb
         clear hx5 hl5)
      | (with_reducible refine wpList_setK (i := 0) (v := .slice (some ⟨pl, 0, none⟩) N cap) rfl rfl LB.out ?_ ?_ ?_ ?_ ?_ ?_ ?_
         · rfl
         · rfl
         · show 0 < 1; omega
         · kernel_rfl
         · rfl
         · rfl
         rintro w6 hb6 ho6
         have hb7 : Blk w6 lb #[.slice (some ⟨pl, 0, none⟩) N cap] 22 := hb6
         have n1 := NPL.out
         have n2 := NLB.out
         have hrg := RG.out.only ho6 (fun e => by omega)
         have hgb := GB.out.only ho6 (fun e => by omega)
         have hro := ROW.out.only ho6 (fun e => by omega)
         have hx6 := X.out.then_only ho6 (fun q e => by rw [e]; exact LLB.out)
         have hcm : CM w w6 lb gb pl g cap N l G (.slice none 0 0) [] := ⟨hb7, hgb, hro, hrg, World.ownsRow_nil _ _ _ _, ⟨by omega, by omega, by omega⟩, (fun b hb => by cases hb), HNL.out.symm, GL.out, HSM.out, hx6, LPL.out⟩
         clear GB RG X ROW LB hb6 ho6 hb7 n1 n2 hrg hgb hro hx6
         have HCM := Lib.hid hcm
         clear hcm))
    clear HGR HCL HNP LG GL NGE LGB LPL NPL NLB LLB HSM
    go_loopw [6, 25] (fun v t wr => ∃ (k : Nat) (left : List Int) (out : List PayD), k ≤ N ∧ t = .int .i64 k ∧ Hid (CM w wr lb gb pl g cap N left G v out) ∧ Hid (clrN G (N - k) k left out = some oF)) (fun _ t _ => N - (intOf t).toNat)
    case atStart => exact ⟨0, l, [], Nat.zero_le _, rfl, HCM.out, HCN⟩
    case round =>
      clear HCM HCN
      obtain ⟨k, left, out, hk, rfl, HC, HN⟩ := hrel
      by_cases hlt : k < N
      · have hn := HN.out
        rw [show N - k = (N - (k + 1)) + 1 by omega] at hn
        obtain ⟨l2, o2, hin, hout⟩ := clrN_succ hn
        have hlo := (clrN_len _ _ _ _ _ hout).1
        have j1 : (0:Int) ≤ (k:Int) := by omega
        have j2 : (k:Int) < (N:Int) := by omega
        have HIN := Lib.hid hin
        have HOUT := Lib.hid hout
        have HLO := Lib.hid hlo
        clear hin hout hlo
        clear hn HN
        go_upto_region 11 with (first
          | (with_reducible refine wpList_alloc1 rfl rfl Try.zeroValue3 rfl ?_
             rintro nb w7 hb7 hx7 hl7
             have nnp : nb ≠ pl := by have := HC.out.row.lt; omega
             have nnv : ∀ b, u6.ownBlock = some b → b ≠ nb := fun b hb => by have := (HC.out.o.lt b hb).2; omega
             have lnb := Nat.le_trans HC.out.x.size hl7
             have nno : nb ≠ lb ∧ nb ≠ gb ∧ nb ≠ g := by
               have h1 := HC.out.hl.lt
               have h2 := HC.out.hg.lt
               have h3 := HC.out.rg.lt
               exact ⟨by omega, by omega, by omega⟩
             replace HC := Lib.hid (HC.out.ext hx7)
             have NB := Lib.hid hb7
             have NNP := Lib.hid nnp
             have NNV := Lib.hid nnv
             have LNB := Lib.hid lnb
             have NNO := Lib.hid nno
             clear hb7 nnp nnv lnb nno
             clear hx7 hl7)
          | (with_reducible refine wpList_setK (i := 0) (v := .int .i64 (k : Int)) rfl rfl NB.out ?_ ?_ ?_ ?_ ?_ ?_ ?_
             · rfl
             · rfl
             · show 0 < 1; omega
             · kernel_rfl
             · rfl
             · rfl
             rintro w8 hb8 ho8
             have hb9 : Blk w8 nb #[.int .i64 (k : Int)] 3 := hb8
             have hc := HC.out
             have n3 := NNO.out
             have hcm : CM w w8 lb gb pl g cap N left G u6 out := ⟨hc.hl.only ho8 (fun e => n3.1 e.symm), hc.hg.only ho8 (fun e => n3.2.1 e.symm), hc.row.only ho8 (fun e => NNP.out e.symm), hc.rg.only ho8 (fun e => n3.2.2 e.symm), owns_only hc.o ho8 (fun b hb e => NNV.out b hb e), hc.ne, hc.nv, hc.ll, hc.lg, hc.sm, hc.x.then_only ho8 (fun q e => by rw [e]; exact LNB.out), hc.far⟩
             have hcn : CN w w8 lb gb pl g cap N nb k left G u6 out := ⟨hcm, hb9, NNP.out, NNV.out⟩
             clear HC NB NNP NNV LNB NNO hb8 hb9 ho8 hc n3 hcm
             have HC := Lib.hid hcn
             clear hcn)
          | (go_at_call 62
             refine (HC.out.first hl true).mono ?_
             rintro e w9 ⟨rfl, hx9⟩
             replace HC := Lib.hid (HC.out.ext hx9)
             clear hx9))
        go_loopw [6, 10] (fun v t wr => ∃ (f : Nat) (left : List Int) (out : List PayD), t = .int .i64 (firstV (firstC left G k true)) ∧ Hid (CN w wr lb gb pl g cap N nb k left G v out) ∧ Hid (clrIn G k f left out = some (l2, o2))) (fun v _ _ => o2.length - vLen v)
        case atStart => exact ⟨25, left, out, rfl, HC.out, HIN.out⟩
        case round =>
          clear HC HIN
          obtain ⟨f, left, out, hfv, HC, HIN⟩ := hrel
          obtain ⟨a0, c0, rfl⟩ := row_form HC.out.c.o
          cases hfc : firstC left G k true with
          | none =>
            rw [hfc] at hfv
            change _ = Value.int .i64 (-1) at hfv
            subst hfv
            have hio := clrIn_none HIN.out hfc
            have hC2 := HC.out.c
            have hout2 : clrN G (N - (k + 1)) (k + 1) left out = some oF := by
              have h := HOUT.out
              cases hio
              exact_mod_cast h
            clear HC HIN hio hfc
            have HC := Lib.hid hC2
            have HOUT2 := Lib.hid hout2
            clear hC2 hout2
            go_wp2
            go_roundw
            case rel => exact ⟨k + 1, left, out, by omega, by go_num, HC, HOUT2⟩
            case measure => simp [intOf]; omega
          | some a =>
            rw [hfc] at hfv
            change _ = Value.int .i64 (a : Int) at hfv
            subst hfv
            obtain ⟨f', b, _, hfb, hin2⟩ := clrIn_some HIN.out hfc
            have hal := firstC_owes hfc
            have hbl := firstC_owed hfb
            have hn := payN_range HC.out.c.sm hal.2 hbl.2
            have hFV2 : firstV (firstC left G k false) = (b : Int) := by rw [hfb]; rfl
            have hlen := (clrIn_len _ _ _ _ hin2).1
            have hll := HC.out.c.ll
            have hus := gI_small HC.out.c.sm (by omega) a
            have hzs := gI_small HC.out.c.sm (by omega) b
            have hpn : payN left a b = min (-(gI left a)) (gI left b) := rfl
            obtain ⟨n, hn1⟩ : ∃ n, n = payN left a b := ⟨_, rfl⟩
            obtain ⟨u, hu1⟩ : ∃ u, u = gI left a := ⟨_, rfl⟩
            obtain ⟨z, hz1⟩ : ∃ u, u = gI left b := ⟨_, rfl⟩
            have hab : a ≠ b := fun e => by subst e; omega
            rw [← hu1] at hal hn hus hin2 hpn
            rw [← hz1] at hbl hn hzs hin2 hpn
            rw [← hn1] at hn hin2 hpn
            rw [List.length_append] at hlen
            simp only [List.length_cons, List.length_nil] at hlen
            obtain ⟨al1, al2⟩ := hal
            obtain ⟨bl1, bl2⟩ := hbl
            obtain ⟨us1, us2⟩ := hus
            obtain ⟨zs1, zs2⟩ := hzs
            obtain ⟨n1, n2, n3, n4⟩ := hn
            have ja : (0:Int) ≤ (a:Int) := by omega
            have jb : (0:Int) ≤ (b:Int) := by omega
            have ja2 : (a:Int) < (N:Int) := by omega
            have jb2 : (b:Int) < (N:Int) := by omega
            have hlen2 : out.length + 1 ≤ 100000 := by have := HLO.out; omega
            rw [hll] at al1 bl1
            have HIN2 := Lib.hid hin2
            have FV2 := Lib.hid hFV2
            have HU := Lib.hid hu1
            have HZ := Lib.hid hz1
            have HPN := Lib.hid hpn
            have HLEN := Lib.hid hlen
            have HAB := Lib.hid hab
            have HLL := Lib.hid hll
            clear hin2 hFV2 hu1 hz1 hpn hlen hab hll
            clear HIN hfb hn1 hfc
            go_upto_region 14 with (
              go_at_call 62
              refine (HC.out.first hl false).mono ?_
              rintro e w9 ⟨rfl, hx9⟩
              replace HC := Lib.hid (HC.out.ext hx9)
              rw [FV2.out]
              clear hx9)
            have cl0 := HC.out.c.hl.cell 0
            have ca := HC.out.c.row.cell (i := a) (by rw [HLL.out]; exact al1)
            have cb := HC.out.c.row.cell (i := b) (by rw [HLL.out]; exact bl1)
            rw [← HU.out] at ca
            rw [← HZ.out] at cb
            go_quiet (fail)
            rw [show (if z < -u then z else -u) = n by rw [HPN.out]; split <;> omega]
            have hxq : Ext w9 (w9.drewN nq) := Ext.of_drewN _ _
            replace HC := Lib.hid (HC.out.ext hxq)
            generalize w9.drewN nq = wq at *
            clear hxq ca cb cl0
            go_upto_region 16 with (
              at_builtin
              refine wpList_app tPays rfl rfl rfl (owns_ext HC.out.c.o (ext_lit _ _ _)) rfl (Src.lit _ [.int .i64 (a : Int), .int .i64 (b : Int), .int .i64 n] 1 3 rfl 41 1) (by simp [Value.oneCell']) (by omega) (Nat.le_trans HC.out.c.x.size (by simp)) ?_
              rintro v' w10 q1 q2 q3
              have hcn := (HC.out.ext (ext_lit wq _ _)).grow (p := ⟨a, b, n⟩) q1 q2 q3
              clear HC q1 q2 q3
              have HC := Lib.hid hcn
              clear hcn)
            obtain ⟨a1, c1, rfl⟩ := row_form HC.out.c.o
            have hrow := HC.out.c.row
            have ca := hrow.cell (i := a) (by rw [HLL.out]; exact al1)
            rw [← HU.out] at ca
            obtain ⟨cs, hb10, hcs, hcv⟩ := hrow
            have cl0 := HC.out.c.hl.cell 0
            have hasz : a < cs.size := by rw [HLL.out] at hcs; omega
            have hse := RowI.set_cs hcs hcv (j := a) (by rw [HLL.out]; exact al1) (u + n)
            have hss := HC.out.c.sm.set (x := u + n) (by constructor <;> omega) a
            have hg2 : gI (left.set a (u + n)) b = z := by rw [gI_setO _ (fun e => HAB.out e.symm), HZ.out]
            have HB10 := Lib.hid hb10
            have ASZ := Lib.hid hasz
            have HSE := Lib.hid hse
            have HSS := Lib.hid hss
            have HG2 := Lib.hid hg2
            clear hb10 hasz hse hss hg2
            clear hcs hcv
            go_upto_region 17 with (
              with_reducible refine wpList_setK (i := a) (v := .int .i64 (u + n)) rfl rfl HB10.out ?_ ?_ ?_ ?_ ?_ ?_ ?_
              · rfl
              · rfl
              · exact ASZ.out
              · kernel_rfl
              · rfl
              · rfl
              rintro w11 hb11 ho11
              have hcn := HC.out.put ⟨_, hb11, HSE.out.1, HSE.out.2⟩ ho11 (by simp) HSS.out
              clear HC hb11 ho11 HB10 HSE HSS ca cl0
              have HC := Lib.hid hcn
              clear hcn)
            clear ASZ
            have hrow := HC.out.c.row
            have cb := hrow.cell (i := b) (by rw [List.length_set, HLL.out]; exact bl1)
            rw [HG2.out] at cb
            obtain ⟨cs2, hb11, hcs, hcv⟩ := hrow
            have cl0 := HC.out.c.hl.cell 0
            have hasz : b < cs2.size := by rw [List.length_set, HLL.out] at hcs; omega
            have hse := RowI.set_cs hcs hcv (j := b) (by rw [List.length_set, HLL.out]; exact bl1) (z - n)
            have hss := HC.out.c.sm.set (x := z - n) (by constructor <;> omega) b
            have HB10 := Lib.hid hb11
            have ASZ := Lib.hid hasz
            have HSE := Lib.hid hse
            have HSS := Lib.hid hss
            clear hb11 hasz hse hss
            clear hcs hcv
            go_upto_region 12 with (
              with_reducible refine wpList_setK (i := b) (v := .int .i64 (z - n)) rfl rfl HB10.out ?_ ?_ ?_ ?_ ?_ ?_ ?_
              · rfl
              · rfl
              · exact ASZ.out
              · kernel_rfl
              · rfl
              · rfl
              rintro w12 hb12 ho12
              have hcn := HC.out.put ⟨_, hb12, HSE.out.1, HSE.out.2⟩ ho12 (by simp) HSS.out
              clear HC hb12 ho12 HB10 HSE HSS cb cl0
              have HC := Lib.hid hcn
              clear hcn)
            go_wp2_with (
              go_at_call 62
              refine (HC.out.first hl true).mono ?_
              rintro e w13 ⟨rfl, hx13⟩
              replace HC := Lib.hid (HC.out.ext hx13)
              clear hx13)
            go_roundw
            case rel => exact ⟨f', _, out ++ [⟨a, b, n⟩], rfl, Lib.hid (by have h := HC.out; rw [show (out ++ [(⟨a, b, n⟩ : PayD)]).length = out.length + 1 by simp] at h; exact h), HIN2⟩
            case measure =>
              have h := HLEN.out
              show o2.length - (out.length + 1) < o2.length - out.length
              omega
      · obtain rfl : k = N := by omega
        have hn := HN.out
        rw [Nat.sub_self] at hn
        have hoe : out = oF := by cases hn; rfl
        subst hoe
        have hc := HC.out
        clear hn HN hlt HC
        have HC := Lib.hid hc
        clear hc
        go_wp2
        go_ret2
        exact HP.out _ _ ⟨_, by rw [HE.out]; rfl, HC.out.x, .inr ⟨HE.out, G, _, HGP.out, HCP.out, HFO.out, HC.out.o⟩⟩
  · have hne : (er != 0) = true := by simpa using q0
    have HNP : Hid (∀ e w1, GroupsPost w l e w1 → e = .returned (.tuple #[.slice none 0 0, .int .i64 er]) ∧ Ext w w1) := fun e w1 ⟨v, h1, h2, h3⟩ => by
      rw [← her] at h1 h3
      rcases h3 with ⟨_, h4⟩ | ⟨h3, _⟩
      · exact ⟨by rw [h1, h4], h2⟩
      · exact absurd h3 q0
    have HP := Lib.hid hp
    have HGR := Lib.hid hgr
    have HE := Lib.hid her
    have Q0 := Lib.hid q0
    clear hp hgr her q0
    clear hcl hG
    go_enter Try.func21, Try.ntmps21
    go_wp2_with (first
      | (go_at_call 19
         refine HGR.out.mono ?_
         rintro e w1 hgp
         obtain ⟨rfl, hx1⟩ := HNP.out e w1 hgp
         clear hgp
         have X := Lib.hid hx1
         clear hx1)
      | (with_reducible refine wpList_alloc1 rfl rfl Try.zeroValue22 rfl ?_
         rintro gb w2 hb2 hx2 hl2
         have lgb := Nat.le_trans X.out.size hl2
         replace X := Lib.hid (X.out.ext hx2)
         have GB := Lib.hid hb2
         have LGB := Lib.hid lgb
         clear hb2 lgb
         clear hx2 hl2)
      | (with_reducible refine wpList_setK (i := 0) (v := .slice none 0 0) rfl rfl GB.out ?_ ?_ ?_ ?_ ?_ ?_ ?_
         · rfl
         · rfl
         · show 0 < 1; omega
         · kernel_rfl
         · rfl
         · rfl
         rintro w3 hb3 ho3
         have hx3 := X.out.then_only ho3 (fun q e => by rw [e]; exact LGB.out)
         clear GB X hb3 ho3
         have X := Lib.hid hx3
         clear hx3))
    go_ret2
    exact HP.out _ _ ⟨_, by rw [← HE.out]; rfl, X.out, .inl ⟨by rw [← HE.out]; exact Q0.out, rfl⟩⟩
end Go.Proofs.Ytekplfbfkfiabaa
