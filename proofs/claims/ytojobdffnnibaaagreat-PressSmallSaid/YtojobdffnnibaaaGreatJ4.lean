/- A press that is started: Clone, start. start. The addresses of the towers. What printing does, in plain words and in memory. The reference's leaf functions: Check, shaped, count. The reference's count, safe, started. What the reference's Print keeps in memory, and what it counts, in plain words. -/
import Derived.Test.YtojobdffnnibaaaGreatPMach
import Derived.Lib.SliceRun
namespace Go.Proofs.YtojobdffnnibaaaGreat
open Go.RowKit
set_option linter.unusedVariables false
set_option linter.unusedSimpArgs false
theorem tUnits : SliceT Tryz.prog 36 82 (.agg #[.bool false, .bool false, .bool false, .bool false, .int .i64 0]) 5 16 := ⟨by kernel_rfl, by kernel_rfl, rfl, by decide, by decide⟩
set_option maxRecDepth 100000 in
theorem clone_any (us : List UnitD) (va : Value) (w : World) (ha : UnIn w va us) (hl : us.length ≤ 1000000) :
 Calls Tryz.prog 68 #[va] w fun e w' => ∃ v, e = .returned v ∧ w'.ownsRow w.heap.size 82 5 v us.length (uL us) ∧ Ext w w' := by
 obtain ⟨a, c, rfl, Ha⟩ := ha.form; clear ha; have HL := Hd hl; clear hl
 cases a with
 | none =>
   have h0 : us.length = 0 := by
    obtain ⟨_, a', c', h1, _, h2⟩ := Ha.out
    cases h1
    rcases Nat.eq_zero_or_pos us.length with h | h
    · exact h
    · obtain ⟨b, o, e, _⟩ := h2 h; cases e
   have hc : c = 0 := by
    obtain ⟨_, a', c', h1, h3, h2⟩ := Ha.out
    cases h1
    exact h3 rfl
   subst hc; have hus : us = [] := List.eq_nil_of_length_eq_zero h0; subst hus; have q0 : ∀ (w : World), (binOp .eql 36 (.slice none 0 0) (.slice none 0 0)).run Tryz.prog w = .ok (.bool true) w := fun w => Lib.run_eql_slice_nil w _ _ none 0 0 0 0 tUnits.ht
   go_enter Tryz.func68, Tryz.ntmps68
   go_wp2; go_ret; exact ⟨_, rfl, World.ownsRow_nil _ _ _ _, Below.refl _ _⟩
 | some ad =>
   have q0 : ∀ (w : World), (binOp .eql 36 (.slice (some ad) us.length c) (.slice none 0 0)).run Tryz.prog w = .ok (.bool false) w := fun w => Lib.run_eql_slice_nil w _ _ (some ad) us.length c 0 0 tUnits.ht
   go_enter Tryz.func68, Tryz.ntmps68
   go_wp2_with (first
    | (with_reducible refine wpList_build0 tUnits rfl rfl ?_
       intro v0 w1 hx1 hown1; obtain ⟨a1, c1, hv1⟩ := row_form hown1; subst hv1; have HO := Hd hown1; have HX := Hd hx1
       clear hx1 hown1)
    | (at_builtin
       refine wpList_app tUnits rfl rfl (v := .slice a1 0 c1) rfl HO.out rfl (UnIn.src (Ha.out.ext HX.out)) (uL_one us) (by have := HL.out; omega) HX.out.size ?_; intro v w2 hown2 hgr2 hf2; rw [Nat.zero_add, List.nil_append] at hown2; have hx2 := ext_grown HX.out HO.out hgr2; have HO2 := Hd hown2; have HX2 := Hd hx2; obtain ⟨a2, c2, hv2⟩ := row_form hown2; subst hv2
       clear hown2 hgr2 hf2 hx2 HO HX))
   go_ret; exact ⟨_, rfl, HO2.out, HX2.out⟩
/-- A state as it is handed on. -/
def sV (vu : Value) (s : StD) : Value := .agg #[.int .i64 s.drive, .bool s.folder, vu, .int .i64 s.fresh]
/-- A press at work that is the call's own: its blocks lie at B or above, what is jammed below. -/
structure MOw (B : Nat) (w : World) (mb pb ub c : Nat) (p : PressD) (s : StD) (vj : Value) : Prop where
 bm : Blk w mb #[.pointer (some ⟨pb, 0, none⟩), .int .i64 s.drive, .bool s.folder, .slice (some ⟨ub, 0, none⟩) s.units.length c, .int .i64 s.fresh] 139
 bp : Blk w pb #[vj, .int .i64 p.warm, .int .i64 p.tail, .int .i64 p.dirt] 34
 bu : ∃ cs, Blk w ub cs 82 ∧ (s.units.length ≤ c ∧ c ≤ maxLen ∧ cs.size = c * 5) ∧ cs.toList.take (s.units.length * 5) = uL s.units
 jm : Truths w vj p.jam
 jl : ∀ b, vj.ownBlock = some b → b < B
 lm : B ≤ mb
 lp : B ≤ pb
 lu : B ≤ ub
section
variable {B : Nat} {w w' : World} {mb pb ub c : Nat} {p : PressD} {s : StD} {vj : Value}
theorem MOw.un (h : MOw B w mb pb ub c p s vj) (hl : s.units.length ≤ 9223372036854775807) : UnIn w (.slice (some ⟨ub, 0, none⟩) s.units.length c) s.units := by
 obtain ⟨cs, hb, hn, ht⟩ := h.bu; refine ⟨hl, _, _, rfl, (fun h => by cases h), fun h0 => ⟨ub, 0, rfl, fun i hi j hj => ?_⟩⟩; obtain ⟨hn1, hn2, hn3⟩ := hn; rw [hb.cell, Nat.zero_add, ← uL_get s.units i j hi hj, ← ht, List.getElem?_take_of_lt (by omega), Array.getElem?_toList]
theorem MOw.st (h : MOw B w mb pb ub c p s vj) (hl : s.units.length ≤ 9223372036854775807) : MSt w mb pb p s vj (.slice (some ⟨ub, 0, none⟩) s.units.length c) :=
 ⟨h.bm, h.bp, h.un hl, h.jm⟩
theorem Sl.only {w w' : World} {v : Value} {xs : List Value} {S : Nat → Prop} (h : Sl w v xs) (k : Only S w w') (hs : ∀ b, v.ownBlock = some b → ¬ S b) : Sl w' v xs := by
 obtain ⟨hm, a, c, hv, hn, hc⟩ := h; refine ⟨hm, a, c, hv, hn, fun h => ?_⟩; obtain ⟨b, o, e, hh⟩ := hc h; exact ⟨b, o, e, fun i u hu => k.cell (hh i u hu) (hs b (by rw [hv, e]; rfl))⟩
theorem MOw.only {S : Nat → Prop} (h : MOw B w mb pb ub c p s vj) (k : Only S w w') (hm : ¬ S mb) (hp : ¬ S pb) (hu : ¬ S ub) (hj : ∀ b, b < B → ¬ S b) : MOw B w' mb pb ub c p s vj := by
 obtain ⟨cs, hb, hn, ht⟩ := h.bu; exact ⟨h.bm.only k hm, h.bp.only k hp, ⟨cs, hb.only k hu, hn, ht⟩, Sl.only h.jm k fun b hb => hj b (h.jl b hb), h.jl, h.lm, h.lp, h.lu⟩
theorem MOw.ext (h : MOw B w mb pb ub c p s vj) (k : Ext w w') : MOw B w' mb pb ub c p s vj :=
 h.only (S := fun _ => False) (Only.of_ext k) id id id fun _ _ => id
theorem blk_ty {b : Nat} {cs cs' : Array Value} {t t' : TypeId} (h : Blk w b cs t) (h' : Blk w b cs' t') : t = t' := by
 have := h.symm.trans h'
 cases this
 rfl
theorem MOw.mp (h : MOw B w mb pb ub c p s vj) : mb ≠ pb := fun e => absurd (blk_ty h.bm (e ▸ h.bp)) (by decide)
theorem MOw.mu (h : MOw B w mb pb ub c p s vj) : mb ≠ ub := fun e => by
 obtain ⟨cs, hb, _⟩ := h.bu; exact absurd (blk_ty h.bm (e ▸ hb)) (by decide)
theorem MOw.pu (h : MOw B w mb pb ub c p s vj) : pb ≠ ub := fun e => by
 obtain ⟨cs, hb, _⟩ := h.bu; exact absurd (blk_ty h.bp (e ▸ hb)) (by decide)
end
theorem uL_set {us : List UnitD} {i j : Nat} {u : UnitD} {v : Value} (hi : i < us.length) (hj : j < 5) (hu : uC u = (uC us[i]).set j v) : (uL us).set (i * 5 + j) v = uL (us.set i u) := by
 apply List.ext_getElem?; intro k
 by_cases hk : k < us.length * 5
 {
 have hkd : k = k / 5 * 5 + k % 5 := (by omega); have h1 := uL_get us (k / 5) (k % 5) (by omega) (by omega); have h2 := uL_get (us.set i u) (k / 5) (k % 5) (by rw [List.length_set]; omega) (by omega); rw [← hkd] at h1 h2; rw [h2, List.getElem?_set]
 by_cases e : i * 5 + j = k
 { have e1 : k / 5 = i := (by omega); have e2 : k % 5 = j := (by omega); rw [if_pos e, if_pos (by rw [uL_len]; omega)]; simp only [e1, e2, List.getElem_set_self]; rw [hu, List.getElem?_set_self (show j < (uC us[i]).length from hj)] }
 {
 rw [if_neg e, h1]
 by_cases e1 : k / 5 = i
 { have e2 : k % 5 ≠ j := (by omega); simp only [e1, List.getElem_set_self]; rw [hu, List.getElem?_set_ne (fun h => e2 h.symm)] }
 · rw [List.getElem_set_ne (fun h => e1 h.symm)]
 }
 }
 · rw [List.getElem?_eq_none (by rw [List.length_set, uL_len]; omega), List.getElem?_eq_none (by rw [uL_len, List.length_set]; omega)]
section
variable {B : Nat} {w w' : World} {mb pb ub c : Nat} {p : PressD} {s : StD} {vj : Value}
theorem MOw.own (h : MOw B w mb pb ub c p s vj) : w.ownsRow B 82 5 (.slice (some ⟨ub, 0, none⟩) s.units.length c) s.units.length (uL s.units) := by
 obtain ⟨cs, hb, ⟨h1, h2, h3⟩, ht⟩ := h.bu; exact ⟨uL_len _, .inr ⟨ub, c, cs, rfl, h.lu, hb, h1, h2, h3, ht⟩⟩
theorem MOw.setU {cs : Array Value} {i j : Nat} {u : UnitD} {v : Value} (h : MOw B w mb pb ub c p s vj) (hb : Blk w ub cs 82) (hi : i < s.units.length) (hj : j < 5) (hu : uC u = (uC s.units[i]).set j v)
 (hb1 : Blk w' ub (cs.setIfInBounds (i * 5 + j) v) 82) (ho : Only (fun k => k = ub) w w') : MOw B w' mb pb ub c p { s with units := s.units.set i u } vj := by
 obtain ⟨cs', hb', ⟨h1, h2, h3⟩, ht⟩ := h.bu
 have e : cs' = cs := by
  have := hb'.symm.trans hb; simp only [Option.some.injEq, Obj.cells.injEq] at this; exact this.1
 subst e; have hl : ({ s with units := s.units.set i u } : StD).units.length = s.units.length := List.length_set; refine ⟨?_, h.bp.only ho h.pu, ⟨_, hb1, ⟨?_, h2, ?_⟩, ?_⟩, Sl.only h.jm ho fun b hb e => ?_, h.jl, h.lm, h.lp, h.lu⟩
 · rw [hl]; exact h.bm.only ho h.mu
 · rw [hl]; exact h1
 · rw [Array.size_setIfInBounds]; exact h3
 · rw [hl, Array.toList_setIfInBounds, List.take_set, ht]
   exact uL_set hi hj hu
 { have := h.jl b hb; have := h.lu; omega }
theorem MOw.setM {s' : StD} (h : MOw B w mb pb ub c p s vj) (hu : s'.units = s.units) (hb : Blk w' mb #[.pointer (some ⟨pb, 0, none⟩), .int .i64 s'.drive, .bool s'.folder, .slice (some ⟨ub, 0, none⟩) s.units.length c, .int .i64 s'.fresh] 139)
 (ho : Only (fun k => k = mb) w w') : MOw B w' mb pb ub c p s' vj := by
 obtain ⟨cs, hbu, hn, ht⟩ := h.bu; refine ⟨by rw [hu]; exact hb, h.bp.only ho (fun e => h.mp e.symm), ⟨cs, hbu.only ho (fun e => h.mu e.symm), by rw [hu]; exact hn, by rw [hu]; exact ht⟩, Sl.only h.jm ho fun b hb e => ?_, h.jl, h.lm, h.lp, h.lu⟩; have := h.jl b hb; have := h.lm; omega
end
/-- What start does. -/
def StartPost (w : World) (p : PressD) (s : StD) (vj : Value) (e : Ending) (w' : World) : Prop :=
 (stErr p s ≠ 0 ∧ e = .returned (.tuple #[.pointer none, .int .i64 (stErr p s)]) ∧ Ext w w') ∨
 (stErr p s = 0 ∧ ∃ mb pb ub c, e = .returned (.tuple #[.pointer (some ⟨mb, 0, none⟩), .int .i64 0]) ∧ MOw w.heap.size w' mb pb ub c p s vj ∧ Ext w w')
theorem stErr_ok {p : PressD} {s : StD} (h : stErr p s = 0) : pErr p = 0 ∧ shapedD p s = true ∧ safeD s = true := by
 unfold stErr at h
 split at h
 · contradiction
 {
 split at h
 { rename_i h1 h2; simp only [Bool.and_eq_true] at h2; exact ⟨by simpa using h1, h2.1, h2.2⟩ }
 · simp at h
 }
theorem pErr_len {p : PressD} (h : pErr p = 0) : 1 ≤ p.jam.length ∧ p.jam.length ≤ 3 := by
 unfold pErr at h
 split at h
 · simp at h
 omega
theorem shaped_len {p : PressD} {s : StD} (h : shapedD p s = true) : s.units.length = p.jam.length := by
 unfold shapedD at h; simp only [Bool.and_eq_true, beq_iff_eq] at h; exact h.1.1.1.1
theorem MOw.mk' {w0 w : World} {mb pb ub c : Nat} {p : PressD} {s : StD} {vj v : Value} (hv : v = .slice (some ⟨ub, 0, none⟩) s.units.length c)
 (hm : Blk w mb #[.pointer (some ⟨pb, 0, none⟩), .int .i64 s.drive, .bool s.folder, v, .int .i64 s.fresh] 139)
 (hp : Blk w pb #[vj, .int .i64 p.warm, .int .i64 p.tail, .int .i64 p.dirt] 34) (hu : w.ownsRow w0.heap.size 82 5 v s.units.length (uL s.units)) (hj : Truths w0 vj p.jam) (hx : Ext w0 w)
 (h0 : 0 < s.units.length) (h1 : 0 < p.jam.length) (lm : w0.heap.size ≤ mb) (lp : w0.heap.size ≤ pb) : MOw w0.heap.size w mb pb ub c p s vj := by
 have hlu := (hu.lt ub (by rw [hv]; rfl)).1; subst hv; refine ⟨hm, hp, ?_, Sl.ext hj hx, ?_, lm, lp, hlu⟩
 {
 rcases hu.2 with ⟨_, e⟩ | ⟨g, cap, cur, hv, _, hb, hc, hm, hs, ht⟩
 omega
 · cases hv
   exact ⟨cur, hb, ⟨hc, hm, hs⟩, ht⟩
 }
 {
 intro b hb; obtain ⟨_, a, c', hv, _, hc⟩ := hj; obtain ⟨bb, o, ha, hcell⟩ := hc (by simpa using h1); rw [hv, ha] at hb
 cases hb
 exact World.block_lt_of_cell? w0 ⟨bb, o + 0, none⟩ (hcell 0 (.bool p.jam[0]) (by simp))
 }
set_option maxRecDepth 100000 in
theorem start_any (p : PressD) (s : StD) (vj vu : Value) (w : World) (hj : Truths w vj p.jam) (hu : UnIn w vu s.units) (hl : s.units.length ≤ 1000000) :
 Calls Tryz.prog 31 #[pV vj p, sV vu s] w (StartPost w p s vj) := by
 have hc := fun w1 (k : Ext w w1) => check_any p vj w1 (Sl.ext hj k); have hcl := fun w1 (k : Ext w w1) => clone_any s.units vu w1 (hu.ext k) hl; have hl2 : s.units.length ≤ 9223372036854775807 := (by omega); obtain ⟨a, c, rfl, Hu⟩ := hu.form; obtain ⟨_, aj, cj, hvj, _⟩ := id hj; rw [List.length_map] at hvj; obtain ⟨e1, he1⟩ : ∃ e, pErr p = e := ⟨_, rfl⟩; rw [he1] at hc; subst hvj; have HC := Hd hc; have HCL := Hd hcl; have HL2 := Hd hl2; have HJ := Hd hj; clear hc hcl hl2 hj; clear hl hu; unfold pV sV at *
 by_cases h1 : e1 = 0
 {
 subst h1; obtain ⟨b1, hb1⟩ : ∃ b, shapedD p s = b := ⟨_, rfl⟩; obtain ⟨b2, hb2⟩ : ∃ b, safeD s = b := ⟨_, rfl⟩
 have hst : stErr p s = if b1 && b2 then 0 else 9 := by
  unfold stErr; rw [if_neg (by rw [he1]; simp), hb1, hb2]
 have hjl := (pErr_len he1).1; have hsl := fun h => shaped_len (p := p) (s := s) h; rw [hb1] at hsl; have hsh := fun mb pb vu w1 (h : MSt w1 mb pb p s (.slice aj p.jam.length cj) vu) => mShaped mb pb p s _ vu w1 h; have hsf := fun mb pb vu w1 (h : MSt w1 mb pb p s (.slice aj p.jam.length cj) vu) => mSafe mb pb p s _ vu w1 h; rw [hb1] at hsh; rw [hb2] at hsf; have HST := Hd hst; have HSH := Hd hsh; have HSF := Hd hsf; have HJL := Hd hjl; have HSL := Hd hsl; clear hst hsh hsf hjl hsl; clear he1 hb1 hb2
 go_enter Tryz.func31, Tryz.ntmps31
 go_upto_region 1 with (first
  | (with_reducible refine wpList_boxA (t := 34) (cs := #[.slice aj p.jam.length cj, .int .i64 p.warm, .int .i64 p.tail, .int .i64 p.dirt]) rfl rfl rfl ?_
     rintro pb w1 hx1 hx2 hx3; have c1 := hx1.cell; have hx3' : w.heap.size ≤ pb := hx3; clear hx3; have PB := Hd hx1; have X1 := Hd hx2; have LPB := Hd hx3'
     clear hx1 hx2 hx3')
  | (with_reducible refine wpList_boxA (t := 38) (cs := #[.int .i64 s.drive, .bool s.folder, .slice a s.units.length c, .int .i64 s.fresh]) rfl rfl rfl ?_
     rintro sb w2 hy1 hy2 hy3; have c2 := (PB.out.ext hy2).cell; have c3 := hy1.cell; have pb2 := PB.out.ext hy2; have x2 := X1.out.tr hy2; have l2 : w.heap.size ≤ sb := Nat.le_trans X1.out.size hy3; clear c1 PB X1; have SB := Hd hy1; have L2 := Hd l2; have PB := Hd pb2; have X1 := Hd x2; clear hy1 l2 pb2 x2
     clear hy3 hy2))
 go_upto_region 6 with (first
  | (have hgd := HC.out
     go_at_call 55; refine (hgd _ X1.out).mono ?_; rintro e w3 ⟨rfl, hx3⟩; have d2 := (PB.out.ext hx3).cell; have d3 := (SB.out.ext hx3).cell; have pb2 := PB.out.ext hx3; have sb2 := SB.out.ext hx3; have x2 := X1.out.tr hx3; clear c2 c3 PB SB X1 hgd hx3; have c2 := d2; have c3 := d3; have PB := Hd pb2; have SB := Hd sb2; have X1 := Hd x2; clear pb2 sb2 x2
     clear d2 d3)
  | (have hgd := HCL.out
     go_at_call 68; refine (hgd _ X1.out).mono ?_; rintro e w4 ⟨v, rfl, hown, hx4⟩; have d2 := (PB.out.ext hx4).cell; have d3 := (SB.out.ext hx4).cell; have pb2 := PB.out.ext hx4; have sb2 := SB.out.ext hx4; have x2 := X1.out.tr hx4; have ho2 := owns_weak hown X1.out.size
     have hnb : ∀ b, v.ownBlock = some b → b ≠ sb := fun b hb e => by
      have h1 := (hown.lt b hb).1; have h2 := SB.out.lt; omega
     obtain ⟨a4, cc4, hv4⟩ := row_form hown; subst hv4; clear c2 c3 PB SB X1 hgd hx4 hown; have c2 := d2; have c3 := d3; have PB := Hd pb2; have SB := Hd sb2; have X1 := Hd x2; have HOW := Hd ho2; have HNB := Hd hnb; clear pb2 sb2 x2 ho2 hnb
     clear d2 d3)
  | (with_reducible refine wpList_setK (b := sb) (i := 2) (v := .slice a4 s.units.length cc4) rfl rfl SB.out ?_ ?_ ?_ ?_ ?_ ?_ ?_
     rfl; rfl
     · simp
     kernel_rfl; rfl; rfl; rintro w5 hb5 ho5; have hps : pb ≠ sb := fun e => absurd (blk_ty PB.out (e ▸ SB.out)) (by decide); have pb2 := PB.out.only ho5 hps; have d2 := pb2.cell; have d3 := hb5.cell; have x2 := X1.out.then_only ho5 (fun k (e : k = sb) => by rw [e]; exact L2.out); have ho2 := owns_only HOW.out ho5 HNB.out; clear c2 c3 PB SB X1 HOW ho5 HNB; have c2 := d2; have c3 := d3; have PB := Hd pb2; have SB := Hd hb5; have X1 := Hd x2; have HOW := Hd ho2; clear pb2 hb5 x2 ho2
     clear d2 d3)
  | (with_reducible refine wpList_boxA (t := 139) (cs := #[.pointer (some ⟨pb, 0, none⟩), .int .i64 s.drive, .bool s.folder, .slice a4 s.units.length cc4, .int .i64 s.fresh]) rfl rfl rfl ?_
     rintro mb w6 hx1 hx2 hx3; have pb2 := PB.out.ext hx2; have x2 := X1.out.tr hx2; have ho2 := owns_ext HOW.out hx2; have lm : w.heap.size ≤ mb := Nat.le_trans X1.out.size hx3; have hms : MSt w6 mb pb p s (.slice aj p.jam.length cj) (.slice a4 s.units.length cc4) := ⟨hx1, pb2, UnIn.of_owns ho2 HL2.out, Sl.ext HJ.out x2⟩; clear c2 c3 PB SB X1 HOW; have PB := Hd pb2; have X1 := Hd x2; have HOW := Hd ho2; have MB := Hd hx1; have LM := Hd lm; have HMS := Hd hms; clear pb2 x2 ho2 hx1 lm hms
     clear hx2 hx3))
 have hsh := HSH.out mb pb _ _ HMS.out; have hsf := fun w7 (k : Ext w6 w7) => HSF.out mb pb _ w7 (HMS.out.ext k); have SH := Hd hsh; have SF := Hd hsf; clear hsh hsf; clear HSH HSF HC HCL
 cases b1
 {
 go_wp2_with (
  go_at_call 69; refine SH.out.mono ?_; rintro e w7 ⟨rfl, hx7⟩; have x2 := X1.out.tr hx7; clear X1; have X1 := Hd x2
  clear x2)
 refine bodyPost_ret (v := .tuple #[.pointer none, .int .i64 9]) (by simp [results, Tryz.results31, go_sem]) rfl ?_; have h9 : stErr p s = 9 := (by rw [HST.out]; rfl); exact .inl ⟨by rw [h9]; decide, by rw [h9], X1.out⟩
 }
 {
 cases b2
 {
 go_wp2_with (first
  | (go_at_call 69
     refine SH.out.mono ?_; rintro e w7 ⟨rfl, hx7⟩; have x2 := X1.out.tr hx7; have sf := SF.out w7 hx7; clear X1 SF SH hx7; have X1 := Hd x2; have SF := Hd sf
     clear x2 sf)
  | (go_at_call 70
     refine SF.out.mono ?_; rintro e w8 ⟨rfl, hx8⟩; have x2 := X1.out.tr hx8; clear X1 SF hx8; have X1 := Hd x2
     clear x2))
 refine bodyPost_ret (v := .tuple #[.pointer none, .int .i64 9]) (by simp [results, Tryz.results31, go_sem]) rfl ?_; have h9 : stErr p s = 9 := (by rw [HST.out]; rfl); exact .inl ⟨by rw [h9]; decide, by rw [h9], X1.out⟩
 }
 {
 go_wp2_with (first
  | (go_at_call 69
     refine SH.out.mono ?_; rintro e w7 ⟨rfl, hx7⟩; have x2 := X1.out.tr hx7; have sf := SF.out w7 hx7; have ho2 := owns_ext HOW.out hx7; have mb2 := MB.out.ext hx7; have pb2 := PB.out.ext hx7; clear X1 SF SH hx7 HOW MB PB; have X1 := Hd x2; have SF := Hd sf; have HOW := Hd ho2; have MB := Hd mb2; have PB := Hd pb2
     clear x2 sf ho2 mb2 pb2)
  | (go_at_call 70
     refine SF.out.mono ?_; rintro e w8 ⟨rfl, hx8⟩; have x2 := X1.out.tr hx8; have ho2 := owns_ext HOW.out hx8; have mb2 := MB.out.ext hx8; have pb2 := PB.out.ext hx8; clear X1 SF hx8 HOW MB PB; have X1 := Hd x2; have HOW := Hd ho2; have MB := Hd mb2; have PB := Hd pb2
     clear x2 ho2 mb2 pb2))
 refine bodyPost_ret (v := .tuple #[.pointer (some ⟨mb, 0, none⟩), .int .i64 0]) (by simp [results, Tryz.results31, go_sem]) rfl ?_; have h9 : stErr p s = 0 := (by rw [HST.out]; rfl); have hul : 0 < s.units.length := (by rw [HSL.out (by simp)]; exact HJL.out); obtain ⟨ub, c4, hv4⟩ := row_pos HOW.out hul; exact .inr ⟨h9, mb, pb, ub, c4, rfl, MOw.mk' hv4 MB.out PB.out HOW.out HJ.out X1.out hul HJL.out LM.out LPB.out, X1.out⟩
 }
 }
 }
 {
 have hst : stErr p s = e1 := (by unfold stErr; rw [if_pos (by rw [he1]; exact h1), he1]); have f1 : (e1 != 0) = true := (by simp [h1]); have HST := Hd hst; have H1 := Hd h1; clear hst h1; clear he1
 go_enter Tryz.func31, Tryz.ntmps31
 go_upto_region 1 with (first
  | (with_reducible refine wpList_boxA (t := 34) (cs := #[.slice aj p.jam.length cj, .int .i64 p.warm, .int .i64 p.tail, .int .i64 p.dirt]) rfl rfl rfl ?_
     rintro pb w1 hx1 hx2 hx3; have c1 := hx1.cell; have hx3' : w.heap.size ≤ pb := hx3; clear hx3; have PB := Hd hx1; have X1 := Hd hx2; have LPB := Hd hx3'
     clear hx1 hx2 hx3')
  | (with_reducible refine wpList_boxA (t := 38) (cs := #[.int .i64 s.drive, .bool s.folder, .slice a s.units.length c, .int .i64 s.fresh]) rfl rfl rfl ?_
     rintro sb w2 hy1 hy2 hy3; have c2 := (PB.out.ext hy2).cell; have c3 := hy1.cell; have pb2 := PB.out.ext hy2; have x2 := X1.out.tr hy2; have l2 : w.heap.size ≤ sb := Nat.le_trans X1.out.size hy3; clear c1 PB X1; have SB := Hd hy1; have L2 := Hd l2; have PB := Hd pb2; have X1 := Hd x2; clear hy1 l2 pb2 x2
     clear hy3 hy2))
 go_wp2_with (
  have hgd := HC.out; go_at_call 55; refine (hgd _ X1.out).mono ?_; rintro e w3 ⟨rfl, hx3⟩; have x2 := X1.out.tr hx3; clear c2 c3 PB SB X1 hgd hx3; have X1 := Hd x2
  clear x2)
 refine bodyPost_ret (v := .tuple #[.pointer none, .int .i64 e1]) (by simp [results, Tryz.results31, go_sem]) rfl ?_; exact .inl ⟨by rw [HST.out]; exact H1.out, by rw [HST.out], X1.out⟩
 }
theorem tPtrs : SliceT Tryz.prog 141 143 (.pointer none) 1 8 := ⟨by kernel_rfl, by kernel_rfl, rfl, by decide, by decide⟩
/-- The addresses of n towers. -/
def ptrL (ub n : Nat) : List Value := (List.range n).map fun i => .pointer (some ⟨ub, i * 5, none⟩)
theorem ptrL_snoc (ub n : Nat) : ptrL ub (n + 1) = ptrL ub n ++ [.pointer (some ⟨ub, n * 5, none⟩)] := by
 unfold ptrL; rw [List.range_succ, List.map_append]; rfl
set_option maxRecDepth 100000 in
set_option maxHeartbeats 2000000 in
theorem pointers_any {B : Nat} {mb pb ub c : Nat} {p : PressD} {s : StD} {vj : Value} (w : World) (h : MOw B w mb pb ub c p s vj) (hl : s.units.length ≤ 1000000) :
 Calls Tryz.prog 67 #[.pointer (some ⟨mb, 0, none⟩)] w fun e w' => ∃ v, e = .returned v ∧ w'.ownsRow w.heap.size 143 1 v s.units.length (ptrL ub s.units.length) ∧ Ext w w' := by
 have hm := h.bm; obtain ⟨n, hn⟩ : ∃ n, s.units.length = n := ⟨_, rfl⟩; rw [hn] at hm hl ⊢; have HM := Hd hm; have HL := Hd hl; clear hm hl; clear h hn
 go_enter Tryz.func67, Tryz.ntmps67
 have d := HM.out.cell; go_wp2; clear d
 go_loopw [11, 3] (fun t11 t3 wr => ∃ k : Nat, k ≤ n ∧ t11 = .int .i64 k ∧ Hid (wr.ownsRow w.heap.size 143 1 t3 k (ptrL ub k)) ∧ Hid (Ext w wr)) (fun t11 _ _ => n - (intOf t11).toNat)
 case atStart => exact ⟨0, Nat.zero_le _, rfl, World.ownsRow_nil _ _ _ _, Below.refl _ _⟩
 case round =>
  obtain ⟨k, hk, rfl, HO, HX⟩ := hrel; obtain ⟨a3, c3, rfl⟩ := owns_form HO.out
  by_cases hlt : k < n
  {
  have d := (HM.out.ext HX.out).cell; have i1 : (0:Int) ≤ (k:Int) := (by omega); have hkb : k < 1000000 := (by have := HL.out; omega); have i2 : (k:Int) < (n:Int) := by omega
  go_wp2_with (
   at_builtin
   refine wpList_app (n := k) (m := 1) tPtrs rfl rfl (v := .slice a3 k c3) rfl (owns_ext HO.out (ext_lit _ _ _)) rfl (Src.lit _ [.pointer (some ⟨ub, k * 5, none⟩)] 1 1 rfl 143 1) (by simp [Value.oneCell']) (by have := HL.out; omega) (Nat.le_trans HX.out.size (by simp)) ?_; rintro v' w10 t1 t2 t3; have xt := (HX.out.tr (ext_lit _ _ _)).then_only (only_grown t2) (fun b hb => (HO.out.lt b hb).1); rw [← ptrL_snoc] at t1; have T1 := Hd t1; have XT := Hd xt; clear t1 xt
   clear t2 t3 d)
  go_roundw
  case rel => exact ⟨k + 1, by omega, by go_num, T1, XT⟩
  case measure => simp [intOf] <;> omega
  }
  {
  have i2 : decide ((k:Int) < (n:Int)) = false := decide_eq_false (by omega); obtain rfl : k = n := by omega
  go_wp2_with fail
  go_ret; exact ⟨_, rfl, HO.out, HX.out⟩
  }
theorem tWastes : SliceT Tryz.prog 75 79 (.agg #[.int .i64 0, .int .i64 0, .int .i64 0]) 3 24 := ⟨by kernel_rfl, by kernel_rfl, rfl, by decide, by decide⟩
def spC (x : SpanD) : List Value := [.int .i64 x.cause, .int .i64 x.lo, .int .i64 x.hi]
def spL (l : List SpanD) : List Value := l.flatMap spC
/-- The state that comes with an error. -/
def sZ : Value := .agg #[.int .i64 0, .bool false, .slice none 0 0, .int .i64 0]
def PrPost (w : World) (p : PressD) (s : StD) (n : Int) (e : Ending) (w' : World) : Prop :=
 (prErr p s n ≠ 0 ∧ e = .returned (.tuple #[sZ, .slice none 0 0, .int .i64 (prErr p s n)]) ∧ Ext w w') ∨
 (prErr p s n = 0 ∧ ∃ vu vw, e = .returned (.tuple #[sV vu (prD s n), vw, .int .i64 0]) ∧ w'.ownsRow w.heap.size 82 5 vu s.units.length (uL (prD s n).units) ∧
   w'.ownsRow w.heap.size 79 3 vw (prW p s n).length (spL (prW p s n)) ∧ Ext w w')
section
variable {B : Nat} {w w' : World} {mb pb ub c : Nat} {p : PressD} {s : StD} {vj : Value}
theorem MOw.at (h : MOw B w mb pb ub c p s vj) {i : Nat} (hi : i < s.units.length) :
 w.cell? ⟨ub, i * 5, none⟩ = some (.bool s.units[i].op) ∧ w.cell? ⟨ub, i * 5 + 1, none⟩ = some (.bool s.units[i].th) ∧ w.cell? ⟨ub, i * 5 + 2, none⟩ = some (.bool s.units[i].cl) ∧ w.cell? ⟨ub, i * 5 + 3, none⟩ = some (.bool s.units[i].pr) ∧ w.cell? ⟨ub, i * 5 + 4, none⟩ = some (.int .i64 s.units[i].ink) := by
 obtain ⟨cs, hb, ⟨h1, h2, h3⟩, ht⟩ := h.bu
 have e : ∀ j, j < 5 → w.cell? ⟨ub, i * 5 + j, none⟩ = (uC s.units[i])[j]? := fun j hj => by
  rw [hb.cell, ← uL_get s.units i j hi hj, ← ht, List.getElem?_take_of_lt (by omega), Array.getElem?_toList]
 exact ⟨e 0 (by omega), e 1 (by omega), e 2 (by omega), e 3 (by omega), e 4 (by omega)⟩
theorem MOw.room (h : MOw B w mb pb ub c p s vj) : ∃ cs, Blk w ub cs 82 ∧ s.units.length * 5 ≤ cs.size := by
 obtain ⟨cs, hb, ⟨h1, h2, h3⟩, ht⟩ := h.bu; exact ⟨cs, hb, by omega⟩
end
/-- The first k towers are inked. -/
def midU (n : Int) (us : List UnitD) (k : Nat) : List UnitD := (us.take k).map (inked n) ++ us.drop k
theorem midU_len (n : Int) (us : List UnitD) (k : Nat) : (midU n us k).length = us.length := by
 unfold midU; simp; omega
theorem midU_zero (n : Int) (us : List UnitD) : midU n us 0 = us := by simp [midU]
theorem midU_end (n : Int) (us : List UnitD) (k : Nat) (hk : us.length ≤ k) : midU n us k = us.map (inked n) := by
 simp [midU, List.take_of_length_le hk, List.drop_of_length_le hk]
theorem midU_at (n : Int) (us : List UnitD) (k : Nat) (hk : k < us.length) : (midU n us k)[k]'(by rw [midU_len]; exact hk) = us[k] := by
 unfold midU; rw [List.getElem_append_right (by simp; omega)]; simp [Nat.min_eq_left (Nat.le_of_lt hk)]
theorem midU_succ (n : Int) (us : List UnitD) (k : Nat) (hk : k < us.length) : midU n us (k + 1) = (midU n us k).set k (inked n us[k]) := by
 unfold midU; rw [List.set_append_right _ _ (by simp; omega)]; have e : k - ((us.take k).map (inked n)).length = 0 := (by simp; omega); rw [e, List.drop_eq_getElem_cons hk, List.set_cons_zero, List.take_succ_eq_append_getElem hk, List.map_append, List.append_assoc]; rfl
theorem inkM_snoc (us : List UnitD) (k : Nat) (hk : k < us.length) : inkM (us.take (k + 1)) = if us[k].pr then max (inkM (us.take k)) us[k].ink else inkM (us.take k) := by
 unfold inkM; rw [List.take_succ_eq_append_getElem hk, List.foldl_append]; rfl
theorem shaped_nums {p : PressD} {s : StD} (h : shapedD p s = true) : (0 ≤ s.drive ∧ s.drive ≤ 2) ∧ (0 ≤ s.fresh ∧ s.fresh ≤ 1000000) ∧ ∀ u ∈ s.units, 0 ≤ u.ink ∧ u.ink ≤ 1000000 := by
 unfold shapedD okInk at h; simp only [Bool.and_eq_true, decide_eq_true_eq, List.all_eq_true, beq_iff_eq] at h; obtain ⟨⟨⟨⟨_, h1⟩, h2⟩, _⟩, h3⟩ := h; exact ⟨h1, h2, h3⟩
theorem pErr_nums {p : PressD} (h : pErr p = 0) : (0 ≤ p.warm ∧ p.warm ≤ 10000) ∧ (0 ≤ p.tail ∧ p.tail ≤ 10000) ∧ (0 ≤ p.dirt ∧ p.dirt ≤ 10000) := by
 unfold pErr at h
 split at h
 · simp at h
 {
 split at h
 { rename_i h2; unfold okN at h2; simp only [Bool.and_eq_true, decide_eq_true_eq] at h2; exact ⟨h2.1.1, h2.1.2, h2.2⟩ }
 · simp at h
 }
theorem inkM_bd {us : List UnitD} (h : ∀ u ∈ us, 0 ≤ u.ink ∧ u.ink ≤ 1000000) : 0 ≤ inkM us ∧ inkM us ≤ 1000000 := by
 refine ⟨(inkM_ge us 0).1, ?_⟩
 rcases inkM_at us 0 with h0 | ⟨u, hu, _, h0⟩
 · unfold inkM; omega
 · unfold inkM; have := h u hu; omega
theorem inkM_take_bd {us : List UnitD} (h : ∀ u ∈ us, 0 ≤ u.ink ∧ u.ink ≤ 1000000) (k : Nat) : 0 ≤ inkM (us.take k) ∧ inkM (us.take k) ≤ 1000000 :=
 inkM_bd fun u hu => h u (List.mem_of_mem_take hu)
def n3 (p : PressD) (j : Nat) : Int := if j = 0 then p.warm else if j = 1 then p.tail else p.dirt
set_option maxRecDepth 100000 in
set_option maxHeartbeats 2000000 in
theorem rCheck_any (p : PressD) (vj : Value) (w : World) (hj : Truths w vj p.jam) :
 Calls Tryz.prog 56 #[pV vj p] w fun e w' => e = .returned (.int .i64 (pErr p)) ∧ Ext w w' := by
 obtain ⟨_, aj, cj, rfl, _⟩ := hj; rw [List.length_map]; unfold pV; have hp2 : ¬ (1 ≤ p.jam.length ∧ p.jam.length ≤ 3) → pErr p = 2 := fun h => by unfold pErr; rw [if_pos (by omega)]
 have hp81 : (1 ≤ p.jam.length ∧ p.jam.length ≤ 3) → (∃ j, j < 3 ∧ okN (n3 p j) = false) → pErr p = 81 := fun h ⟨j, hj, h2⟩ => by
  unfold pErr; rw [if_neg (by omega), if_neg]; intro h3; simp only [Bool.and_eq_true] at h3; have : j = 0 ∨ j = 1 ∨ j = 2 := by omega
  rcases this with rfl | rfl | rfl
  · rw [show n3 p 0 = p.warm from rfl, h3.1.1] at h2; cases h2
  · rw [show n3 p 1 = p.tail from rfl, h3.1.2] at h2; cases h2
  · rw [show n3 p 2 = p.dirt from rfl, h3.2] at h2; cases h2
 have hp0 : (1 ≤ p.jam.length ∧ p.jam.length ≤ 3) → (∀ j, j < 3 → okN (n3 p j) = true) → pErr p = 0 := fun h h2 => by
  unfold pErr; rw [if_neg (by omega), if_pos]; simp only [Bool.and_eq_true]; exact ⟨⟨h2 0 (by omega), h2 1 (by omega)⟩, h2 2 (by omega)⟩
 have HP2 := Hd hp2; have HP81 := Hd hp81; have HP0 := Hd hp0; clear hp2 hp81 hp0
 go_enter Tryz.func56, Tryz.ntmps56
 go_upto_region 1 with (
  (with_reducible refine wpList_boxA (t := 24) (cs := #[.slice aj p.jam.length cj, .int .i64 p.warm, .int .i64 p.tail, .int .i64 p.dirt]) rfl rfl rfl ?_); rintro xb w1 hx1 hx2 hx3; have c1 := hx1.cell; have XB := Hd hx1; have X1 := Hd hx2; clear hx1 hx2
  clear hx3)
 by_cases h1 : p.jam.length < 1
 { have i1 : (p.jam.length : Int) < 1 := (by omega); go_wp2; go_ret; exact ⟨ret_int (by rw [HP2.out (by omega)]), X1.out⟩ }
 {
 by_cases h2 : 3 < p.jam.length
 { have i1 : ¬ (p.jam.length : Int) < 1 := (by omega); have i2 : (3:Int) < (p.jam.length : Int) := (by omega); go_wp2; go_ret; exact ⟨ret_int (by rw [HP2.out (by omega)]), X1.out⟩ }
 {
 have i1 : ¬ (p.jam.length : Int) < 1 := (by omega); have i2 : ¬ (3:Int) < (p.jam.length : Int) := (by omega); have hg : 1 ≤ p.jam.length ∧ p.jam.length ≤ 3 := (by omega); have HG := Hd hg; clear hg
 go_upto_region 4 with (fail)
 have hn := newB w1 #[.int .i64 p.warm, .int .i64 p.tail, .int .i64 p.dirt] 3; generalize w1.alloc (.cells #[.int .i64 p.warm, .int .i64 p.tail, .int .i64 p.dirt] 3) = w2 at *; generalize w1.heap.size = lb at *; obtain ⟨hb2, hx2, _⟩ := hn; have x2 := X1.out.tr hx2; have hb3 : Blk w2 lb #[.int .i64 p.warm, .int .i64 p.tail, .int .i64 p.dirt] 3 := hb2; clear X1 hx2 c1 hb2; have X1 := Hd x2; have LB := Hd hb3; clear x2 hb3; go_wp2
 go_loopw [4] (fun t4 wr => ∃ k : Nat, k ≤ 3 ∧ t4 = .int .i64 k ∧ Hid (∀ j, j < k → okN (n3 p j) = true) ∧ Hid (Ext w2 wr)) (fun t4 _ => 3 - (intOf t4).toNat)
 case atStart => exact ⟨0, by omega, rfl, (fun j h => absurd h (Nat.not_lt_zero _)), Below.refl _ _⟩
 case round =>
  obtain ⟨k, hk, rfl, HR, HX⟩ := hrel
  by_cases hlt : k < 3
  {
  have hc := (LB.out.ext HX.out).cell
  have c9 : wr.cell? ⟨lb, k, none⟩ = some (.int .i64 (n3 p k)) := by
   rw [hc]; have : k = 0 ∨ k = 1 ∨ k = 2 := by omega
   rcases this with rfl | rfl | rfl <;> rfl
  have h81 : okN (n3 p k) = false → pErr p = 81 := fun h => HP81.out HG.out ⟨k, hlt, h⟩
  have hr2 : okN (n3 p k) = true → ∀ j, j < k + 1 → okN (n3 p j) = true := fun h j hj => by
   rcases Nat.lt_or_ge j k with h1 | h1
   · exact HR.out j h1
   · obtain rfl : j = k := by omega
     exact h
  obtain ⟨x, hx⟩ : ∃ x, n3 p k = x := ⟨_, rfl⟩; rw [hx] at c9 h81 hr2; have i1 : (0:Int) ≤ (k:Int) := (by omega); have i2 : (k:Int) < 3 := (by omega); have H81 := Hd h81; have HR2 := Hd hr2; clear h81 hr2; clear hx hc
  by_cases hx0 : x < 0
  {
  go_wp2_with (fail)
  go_ret; exact ⟨ret_int (by rw [H81.out (by unfold okN; simp; omega)]), X1.out.tr HX.out⟩
  }
  {
  by_cases hx1 : 10000 < x
  {
  go_wp2_with (fail)
  go_ret; exact ⟨ret_int (by rw [H81.out (by unfold okN; simp; omega)]), X1.out.tr HX.out⟩
  }
  {
  go_wp2_with (fail)
  go_roundw
  case rel => exact ⟨k + 1, by omega, by go_num, HR2.out (by unfold okN; simp; omega), HX⟩
  case measure => simp [intOf] <;> omega
  }
  }
  }
  {
  have i2 : decide ((k:Int) < 3) = false := decide_eq_false (by omega); obtain rfl : k = 3 := by omega
  go_wp2_with (fail)
  go_ret; exact ⟨ret_int (by rw [HP0.out HG.out HR.out]), X1.out.tr HX.out⟩
  }
 }
 }
/-- The first tests of a state. -/
def shGood (p : PressD) (s : StD) : Prop := s.units.length = p.jam.length ∧ 0 ≤ s.drive ∧ s.drive ≤ 2 ∧ 0 ≤ s.fresh ∧ s.fresh ≤ 1000000 ∧ ¬ (s.drive < 2 ∧ 0 < s.fresh)
theorem shaped_good {p : PressD} {s : StD} (h : shGood p s) : shapedD p s = s.units.all fun u => okInk u.ink := by
 obtain ⟨h1, h2, h3, h4, h5, h6⟩ := h; unfold shapedD; have e1 : (s.units.length == p.jam.length) = true := (by simpa using h1); have e2 : okInk s.fresh = true := by unfold okInk; simp; omega
 have e3 : (s.drive != 2 && s.fresh != 0) = false := by
  by_cases h : s.drive = 2
  · simp [h]
  · have : s.fresh = 0 := by omega
    simp [this]
 rw [e1, e2, e3, decide_eq_true h2, decide_eq_true h3]; simp
theorem shaped_bad {p : PressD} {s : StD} (h : ¬ shGood p s) : shapedD p s = false := by
 cases e : shapedD p s with
 | false => rfl
 | true =>
   refine absurd ?_ h; have hl := shaped_len e; obtain ⟨h1, h2, h3⟩ := shaped_nums e; refine ⟨hl, h1.1, h1.2, h2.1, h2.2, fun h4 => ?_⟩; unfold shapedD at e; simp only [Bool.and_eq_true, Bool.not_eq_true', Bool.and_eq_false_iff, bne_eq_false_iff_eq] at e; have := e.1.2; omega
theorem all_take {f : UnitD → Bool} {us : List UnitD} (h : ∀ j (h : j < us.length), f us[j] = true) : us.all f = true := by
 rw [List.all_eq_true]; intro u hu; obtain ⟨j, hj, rfl⟩ := List.mem_iff_getElem.1 hu; exact h j hj
theorem all_not {f : UnitD → Bool} {us : List UnitD} {j : Nat} (hj : j < us.length) (h : f us[j] = false) : us.all f = false := by
 cases e : us.all f with
 | false => rfl
 | true => rw [List.all_eq_true] at e; rw [e _ (List.getElem_mem hj)] at h; cases h
set_option maxRecDepth 100000 in
set_option maxHeartbeats 2000000 in
theorem rShaped_any (p : PressD) (s : StD) (vj vu : Value) (w : World) (hj : Truths w vj p.jam) (hu : UnIn w vu s.units) :
 Calls Tryz.prog 76 #[pV vj p, sV vu s] w fun e w' => e = .returned (.bool (shapedD p s)) ∧ Ext w w' := by
 have hlu := hu.1; obtain ⟨a, c, rfl, Hu⟩ := hu.form; obtain ⟨_, aj, cj, rfl, _⟩ := hj; rw [List.length_map]; clear hu; unfold pV sV; have hsb : ¬ shGood p s → shapedD p s = false := shaped_bad; have hsg : shGood p s → shapedD p s = s.units.all fun u => okInk u.ink := shaped_good; unfold shGood at hsb hsg; have HSB := Hd hsb; have HSG := Hd hsg; clear hsb hsg
 go_enter Tryz.func76, Tryz.ntmps76
 go_upto_region 1 with (first
  | (with_reducible refine wpList_boxA (t := 24) (cs := #[.slice aj p.jam.length cj, .int .i64 p.warm, .int .i64 p.tail, .int .i64 p.dirt]) rfl rfl rfl ?_
     rintro xb w1 hx1 hx2 hx3; have c1 := hx1.cell; have XB := Hd hx1; have X1 := Hd hx2; clear hx1 hx2
     clear hx3)
  | (with_reducible refine wpList_boxA (t := 27) (cs := #[.int .i64 s.drive, .bool s.folder, .slice a s.units.length c, .int .i64 s.fresh]) rfl rfl rfl ?_
     rintro sb w2 hy1 hy2 hy3; have c2 := (XB.out.ext hy2).cell; have x2 := X1.out.tr hy2; have c3 := hy1.cell; clear X1 c1 XB; have SB := Hd hy1; have X1 := Hd x2; clear hy1 x2
     clear hy3 hy2))
 by_cases h1 : s.units.length = p.jam.length
 {
 have q1 : ((s.units.length : Int) != (p.jam.length : Int)) = false := by simp [h1]
 by_cases h2 : s.drive < 0
 {
 go_wp2_with (fail)
 go_ret; exact ⟨ret_bool (by rw [HSB.out (by omega)]), X1.out⟩
 }
 {
 by_cases h3 : 2 < s.drive
 {
 go_wp2_with (fail)
 go_ret; exact ⟨ret_bool (by rw [HSB.out (by omega)]), X1.out⟩
 }
 {
 by_cases h4 : s.fresh < 0
 {
 go_wp2_with (fail)
 go_ret; exact ⟨ret_bool (by rw [HSB.out (by omega)]), X1.out⟩
 }
 {
 by_cases h5 : 1000000 < s.fresh
 {
 go_wp2_with (fail)
 go_ret; exact ⟨ret_bool (by rw [HSB.out (by omega)]), X1.out⟩
 }
 {
 by_cases h6 : s.drive < 2
 {
 by_cases h7 : 0 < s.fresh
 {
 go_wp2_with (fail)
 go_ret; exact ⟨ret_bool (by rw [HSB.out (by omega)]), X1.out⟩
 }
 {
 have hg := HSG.out (by omega); have HG := Hd hg; clear hg
 go_upto_region 3 with (fail)
 clear c2; go_wp2
 go_loopw [5] (fun t5 wr => ∃ k : Nat, k ≤ s.units.length ∧ t5 = .int .i64 k ∧ Hid (∀ j (h : j < s.units.length), j < k → okInk s.units[j].ink = true) ∧ Hid (Ext w2 wr)) (fun t5 _ => s.units.length - (intOf t5).toNat)
 case atStart => exact ⟨0, by omega, rfl, (fun j _ h => absurd h (Nat.not_lt_zero _)), Below.refl _ _⟩
 case round =>
  obtain ⟨k, hk, rfl, HR, HX⟩ := hrel; have d := (SB.out.ext HX.out).cell
  by_cases hlt : k < s.units.length
  {
  obtain ⟨b, o, rfl, hc⟩ := UnIn.cells (Hu.out.ext (X1.out.tr HX.out)) (by omega); obtain ⟨_, _, _, _, d4⟩ := hc k hlt; have hbad : okInk s.units[k].ink = false → shapedD p s = false := fun h => by rw [HG.out]; exact all_not hlt h
  have hr2 : okInk s.units[k].ink = true → ∀ j (h : j < s.units.length), j < k + 1 → okInk s.units[j].ink = true := fun h j hj hjk => by
   rcases Nat.lt_or_ge j k with h1 | h1
   · exact HR.out j hj h1
   · obtain rfl : j = k := by omega
     exact h
  obtain ⟨x, hx⟩ : ∃ x, s.units[k].ink = x := ⟨_, rfl⟩; rw [hx] at d4 hbad hr2; have i1 : (0:Int) ≤ (k:Int) := (by omega); have i2 : (k:Int) < (s.units.length:Int) := (by omega); have HB := Hd hbad; have HR2 := Hd hr2; clear hbad hr2; clear hx hc
  by_cases hx0 : x < 0
  {
  go_wp2_with (fail)
  go_ret; exact ⟨ret_bool (by rw [HB.out (by unfold okInk; simp; omega)]), X1.out.tr HX.out⟩
  }
  {
  by_cases hx1 : 1000000 < x
  {
  go_wp2_with (fail)
  go_ret; exact ⟨ret_bool (by rw [HB.out (by unfold okInk; simp; omega)]), X1.out.tr HX.out⟩
  }
  {
  go_wp2_with (fail)
  go_roundw
  case rel => exact ⟨k + 1, by omega, by go_num, HR2.out (by unfold okInk; simp; omega), HX⟩
  case measure => simp [intOf] <;> omega
  }
  }
  }
  {
  have i2 : decide ((k:Int) < (s.units.length:Int)) = false := decide_eq_false (by omega); obtain rfl : k = s.units.length := by omega
  go_wp2_with (fail)
  go_ret; exact ⟨ret_bool (by rw [HG.out, all_take (fun j h => HR.out j h h)]), X1.out.tr HX.out⟩
  }
 }
 }
 {
 have hg := HSG.out (by omega); have HG := Hd hg; clear hg
 go_upto_region 3 with (fail)
 clear c2; go_wp2
 go_loopw [5] (fun t5 wr => ∃ k : Nat, k ≤ s.units.length ∧ t5 = .int .i64 k ∧ Hid (∀ j (h : j < s.units.length), j < k → okInk s.units[j].ink = true) ∧ Hid (Ext w2 wr)) (fun t5 _ => s.units.length - (intOf t5).toNat)
 case atStart => exact ⟨0, by omega, rfl, (fun j _ h => absurd h (Nat.not_lt_zero _)), Below.refl _ _⟩
 case round =>
  obtain ⟨k, hk, rfl, HR, HX⟩ := hrel; have d := (SB.out.ext HX.out).cell
  by_cases hlt : k < s.units.length
  {
  obtain ⟨b, o, rfl, hc⟩ := UnIn.cells (Hu.out.ext (X1.out.tr HX.out)) (by omega); obtain ⟨_, _, _, _, d4⟩ := hc k hlt; have hbad : okInk s.units[k].ink = false → shapedD p s = false := fun h => by rw [HG.out]; exact all_not hlt h
  have hr2 : okInk s.units[k].ink = true → ∀ j (h : j < s.units.length), j < k + 1 → okInk s.units[j].ink = true := fun h j hj hjk => by
   rcases Nat.lt_or_ge j k with h1 | h1
   · exact HR.out j hj h1
   · obtain rfl : j = k := by omega
     exact h
  obtain ⟨x, hx⟩ : ∃ x, s.units[k].ink = x := ⟨_, rfl⟩; rw [hx] at d4 hbad hr2; have i1 : (0:Int) ≤ (k:Int) := (by omega); have i2 : (k:Int) < (s.units.length:Int) := (by omega); have HB := Hd hbad; have HR2 := Hd hr2; clear hbad hr2; clear hx hc
  by_cases hx0 : x < 0
  {
  go_wp2_with (fail)
  go_ret; exact ⟨ret_bool (by rw [HB.out (by unfold okInk; simp; omega)]), X1.out.tr HX.out⟩
  }
  {
  by_cases hx1 : 1000000 < x
  {
  go_wp2_with (fail)
  go_ret; exact ⟨ret_bool (by rw [HB.out (by unfold okInk; simp; omega)]), X1.out.tr HX.out⟩
  }
  {
  go_wp2_with (fail)
  go_roundw
  case rel => exact ⟨k + 1, by omega, by go_num, HR2.out (by unfold okInk; simp; omega), HX⟩
  case measure => simp [intOf] <;> omega
  }
  }
  }
  {
  have i2 : decide ((k:Int) < (s.units.length:Int)) = false := decide_eq_false (by omega); obtain rfl : k = s.units.length := by omega
  go_wp2_with (fail)
  go_ret; exact ⟨ret_bool (by rw [HG.out, all_take (fun j h => HR.out j h h)]), X1.out.tr HX.out⟩
  }
 }
 }
 }
 }
 }
 }
 {
 have q1 : ((s.units.length : Int) != (p.jam.length : Int)) = true := by simp; omega
 go_wp2_with (fail)
 go_ret; exact ⟨ret_bool (by rw [HSB.out (by omega)]), X1.out⟩
 }
theorem filt_snoc (f : UnitD → Bool) (us : List UnitD) (k : Nat) (hk : k < us.length) : ((us.take (k + 1)).filter f).length = ((us.take k).filter f).length + if f us[k] then 1 else 0 := by
 rw [List.take_succ_eq_append_getElem hk, List.filter_append, List.length_append]
 congr 1
 rw [List.filter_cons]
 split <;> simp_all
theorem filt_le (f : UnitD → Bool) (us : List UnitD) (k : Nat) : ((us.take k).filter f).length ≤ k :=
 Nat.le_trans (List.length_filter_le _ _) (List.length_take_le _ _)
set_option maxRecDepth 100000 in
set_option maxHeartbeats 2000000 in
theorem rCount_any (s : StD) (vu : Value) (w : World) (hu : UnIn w vu s.units) (hl : s.units.length ≤ 1000000) :
 Calls Tryz.prog 78 #[sV vu s] w fun e w' => e = .returned (.tuple #[.int .i64 (nOpen s), .int .i64 (nPr s)]) ∧ Ext w w' := by
 obtain ⟨a, c, rfl, Hu⟩ := hu.form; clear hu; obtain ⟨f0, hf0⟩ : ∃ f0 : Nat, (if s.folder then 1 else 0) = f0 := ⟨_, rfl⟩; have hf1 : f0 ≤ 1 := (by rw [← hf0]; split <;> omega); have hno : nOpen s = f0 + (s.units.filter (·.op)).length := (by unfold nOpen; rw [hf0]); have hnp : nPr s = (s.units.filter (·.pr)).length := rfl; unfold sV; have HNO := Hd hno; have HNP := Hd hnp; have HL := Hd hl; clear hno hnp hl
 go_enter Tryz.func78, Tryz.ntmps78
 go_upto_region 1 with (
  (with_reducible refine wpList_boxA (t := 27) (cs := #[.int .i64 s.drive, .bool s.folder, .slice a s.units.length c, .int .i64 s.fresh]) rfl rfl rfl ?_); rintro sb w1 hx1 hx2 hx3; have c1 := hx1.cell; have SB := Hd hx1; have X1 := Hd hx2; clear hx1 hx2
  clear hx3)
 cases hfo : s.folder
 {
 rw [hfo] at hf0; have hf : f0 = 0 := (by simpa using hf0.symm); have HF := Hd hf; clear hf; clear hf0; rw [hfo] at c1
 go_upto_region 4 with (fail)
 clear c1; go_wp2
 go_loopw [6, 4, 5] (fun t6 t4 t5 wr => ∃ k no np : Nat, k ≤ s.units.length ∧ t6 = .int .i64 k ∧ t4 = .int .i64 no ∧ t5 = .int .i64 np ∧ Hid (no = f0 + ((s.units.take k).filter (·.op)).length) ∧ Hid (np = ((s.units.take k).filter (·.pr)).length) ∧ Hid (Ext w1 wr)) (fun t6 _ _ _ => s.units.length - (intOf t6).toNat)
 case atStart => exact ⟨0, f0, 0, by omega, rfl, by rw [HF.out]; rfl, rfl, rfl, rfl, Below.refl _ _⟩
 case round =>
  obtain ⟨k, no, np, hk, rfl, rfl, rfl, HNO2, HNP2, HX⟩ := hrel; have d := (SB.out.ext HX.out).cell; have hkb : k ≤ 1000000 := Nat.le_trans hk HL.out; have hnb : no ≤ k + 1 := (by rw [HNO2.out]; have := filt_le (·.op) s.units k; omega); have hpb : np ≤ k := by rw [HNP2.out]; exact filt_le _ _ _
  by_cases hlt : k < s.units.length
  {
  obtain ⟨b, o, rfl, hc⟩ := UnIn.cells (Hu.out.ext (X1.out.tr HX.out)) (by omega); obtain ⟨d0, _, _, d3, _⟩ := hc k hlt; have s0 := filt_snoc (·.op) s.units k hlt; have s3 := filt_snoc (·.pr) s.units k hlt; obtain ⟨x0, hx0⟩ : ∃ x, s.units[k].op = x := ⟨_, rfl⟩; obtain ⟨x3, hx3⟩ : ∃ x, s.units[k].pr = x := ⟨_, rfl⟩; rw [hx0] at d0; rw [hx3] at d3; rw [hx0] at s0; rw [hx3] at s3; have i1 : (0:Int) ≤ (k:Int) := (by omega); have i2 : (k:Int) < (s.units.length:Int) := (by omega); have S0 := Hd s0; have S3 := Hd s3; clear s0 s3; clear hx0 hx3 hc
  cases x0 <;> cases x3
  {
  go_wp2_with (fail)
  go_roundw
  case rel => exact ⟨k + 1, no, np, by omega, by go_num, rfl, rfl, by rw [S0.out, HNO2.out]; rfl, by rw [S3.out, HNP2.out]; rfl, HX⟩
  case measure => simp [intOf] <;> omega
  }
  {
  go_wp2_with (fail)
  go_roundw
  case rel => exact ⟨k + 1, no, np + 1, by omega, by go_num, rfl, by go_num, by rw [S0.out, HNO2.out]; rfl, by rw [S3.out, HNP2.out]; rfl, HX⟩
  case measure => simp [intOf] <;> omega
  }
  {
  go_wp2_with (fail)
  go_roundw
  case rel => exact ⟨k + 1, no + 1, np, by omega, by go_num, by go_num, rfl, by rw [S0.out, HNO2.out]; rfl, by rw [S3.out, HNP2.out]; rfl, HX⟩
  case measure => simp [intOf] <;> omega
  }
  {
  go_wp2_with (fail)
  go_roundw
  case rel => exact ⟨k + 1, no + 1, np + 1, by omega, by go_num, by go_num, by go_num, by rw [S0.out, HNO2.out]; rfl, by rw [S3.out, HNP2.out]; rfl, HX⟩
  case measure => simp [intOf] <;> omega
  }
  }
  {
  have i2 : decide ((k:Int) < (s.units.length:Int)) = false := decide_eq_false (by omega); obtain rfl : k = s.units.length := (by omega); have e1 := HNO2.out; have e2 := HNP2.out; rw [List.take_length, ← HNO.out] at e1; rw [List.take_length, ← HNP.out] at e2; have E1 := Hd e1; have E2 := Hd e2; clear e1 e2
  go_wp2_with (fail)
  refine bodyPost_ret (v := .tuple #[.int .i64 no, .int .i64 np]) (by simp [results, Tryz.results78, go_sem]) rfl ?_; exact ⟨by rw [← E1.out, ← E2.out], X1.out.tr HX.out⟩
  }
 }
 {
 rw [hfo] at hf0; have hf : f0 = 1 := (by simpa using hf0.symm); have HF := Hd hf; clear hf; clear hf0; rw [hfo] at c1
 go_upto_region 4 with (fail)
 clear c1; go_wp2
 go_loopw [6, 4, 5] (fun t6 t4 t5 wr => ∃ k no np : Nat, k ≤ s.units.length ∧ t6 = .int .i64 k ∧ t4 = .int .i64 no ∧ t5 = .int .i64 np ∧ Hid (no = f0 + ((s.units.take k).filter (·.op)).length) ∧ Hid (np = ((s.units.take k).filter (·.pr)).length) ∧ Hid (Ext w1 wr)) (fun t6 _ _ _ => s.units.length - (intOf t6).toNat)
 case atStart => exact ⟨0, f0, 0, by omega, rfl, by rw [HF.out]; rfl, rfl, rfl, rfl, Below.refl _ _⟩
 case round =>
  obtain ⟨k, no, np, hk, rfl, rfl, rfl, HNO2, HNP2, HX⟩ := hrel; have d := (SB.out.ext HX.out).cell; have hkb : k ≤ 1000000 := Nat.le_trans hk HL.out; have hnb : no ≤ k + 1 := (by rw [HNO2.out]; have := filt_le (·.op) s.units k; omega); have hpb : np ≤ k := by rw [HNP2.out]; exact filt_le _ _ _
  by_cases hlt : k < s.units.length
  {
  obtain ⟨b, o, rfl, hc⟩ := UnIn.cells (Hu.out.ext (X1.out.tr HX.out)) (by omega); obtain ⟨d0, _, _, d3, _⟩ := hc k hlt; have s0 := filt_snoc (·.op) s.units k hlt; have s3 := filt_snoc (·.pr) s.units k hlt; obtain ⟨x0, hx0⟩ : ∃ x, s.units[k].op = x := ⟨_, rfl⟩; obtain ⟨x3, hx3⟩ : ∃ x, s.units[k].pr = x := ⟨_, rfl⟩; rw [hx0] at d0; rw [hx3] at d3; rw [hx0] at s0; rw [hx3] at s3; have i1 : (0:Int) ≤ (k:Int) := (by omega); have i2 : (k:Int) < (s.units.length:Int) := (by omega); have S0 := Hd s0; have S3 := Hd s3; clear s0 s3; clear hx0 hx3 hc
  cases x0 <;> cases x3
  {
  go_wp2_with (fail)
  go_roundw
  case rel => exact ⟨k + 1, no, np, by omega, by go_num, rfl, rfl, by rw [S0.out, HNO2.out]; rfl, by rw [S3.out, HNP2.out]; rfl, HX⟩
  case measure => simp [intOf] <;> omega
  }
  {
  go_wp2_with (fail)
  go_roundw
  case rel => exact ⟨k + 1, no, np + 1, by omega, by go_num, rfl, by go_num, by rw [S0.out, HNO2.out]; rfl, by rw [S3.out, HNP2.out]; rfl, HX⟩
  case measure => simp [intOf] <;> omega
  }
  {
  go_wp2_with (fail)
  go_roundw
  case rel => exact ⟨k + 1, no + 1, np, by omega, by go_num, by go_num, rfl, by rw [S0.out, HNO2.out]; rfl, by rw [S3.out, HNP2.out]; rfl, HX⟩
  case measure => simp [intOf] <;> omega
  }
  {
  go_wp2_with (fail)
  go_roundw
  case rel => exact ⟨k + 1, no + 1, np + 1, by omega, by go_num, by go_num, by go_num, by rw [S0.out, HNO2.out]; rfl, by rw [S3.out, HNP2.out]; rfl, HX⟩
  case measure => simp [intOf] <;> omega
  }
  }
  {
  have i2 : decide ((k:Int) < (s.units.length:Int)) = false := decide_eq_false (by omega); obtain rfl : k = s.units.length := (by omega); have e1 := HNO2.out; have e2 := HNP2.out; rw [List.take_length, ← HNO.out] at e1; rw [List.take_length, ← HNP.out] at e2; have E1 := Hd e1; have E2 := Hd e2; clear e1 e2
  go_wp2_with (fail)
  refine bodyPost_ret (v := .tuple #[.int .i64 no, .int .i64 np]) (by simp [results, Tryz.results78, go_sem]) rfl ?_; exact ⟨by rw [← E1.out, ← E2.out], X1.out.tr HX.out⟩
  }
 }
theorem any_take {f : UnitD → Bool} {us : List UnitD} (h : ∀ j (h : j < us.length), f us[j] = false) : us.any f = false := by
 rw [List.any_eq_false]; intro u hu; obtain ⟨j, hj, rfl⟩ := List.mem_iff_getElem.1 hu; simp [h j hj]
theorem any_at {f : UnitD → Bool} {us : List UnitD} {j : Nat} (hj : j < us.length) (h : f us[j] = true) : us.any f = true :=
 List.any_eq_true.2 ⟨_, List.getElem_mem hj, h⟩
set_option maxRecDepth 100000 in
set_option maxHeartbeats 2000000 in
theorem rSafe_any (s : StD) (vu : Value) (w : World) (hu : UnIn w vu s.units) (hl : s.units.length ≤ 1000000) :
 Calls Tryz.prog 51 #[sV vu s] w fun e w' => e = .returned (.bool (safeR s)) ∧ Ext w w' := by
 have hcn := fun w1 (k : Ext w w1) => rCount_any s vu w1 (hu.ext k) hl; obtain ⟨a, c, rfl, Hu⟩ := hu.form; clear hu; obtain ⟨no, hno⟩ : ∃ n, nOpen s = n := ⟨_, rfl⟩; obtain ⟨np, hnp⟩ : ∃ n, nPr s = n := ⟨_, rfl⟩; obtain ⟨bt, hbt⟩ : ∃ b, (s.units.any fun u => u.pr && !u.th) = b := ⟨_, rfl⟩
 have hr : safeR s = (!bt && (if s.drive = 0 then np == 0 else if s.drive = 1 then no == 0 else no == 0 && decide (0 < np))) := by
  unfold safeR; rw [hbt, hno, hnp]
 rw [hno, hnp] at hcn; unfold sV at *; have HR := Hd hr; have HBT := Hd hbt; have HL := Hd hl; have HCN := Hd hcn; clear hr hbt hl hcn; clear hno hnp
 go_enter Tryz.func51, Tryz.ntmps51
 go_upto_region 2 with (first
  | (with_reducible refine wpList_boxA (t := 27) (cs := #[.int .i64 s.drive, .bool s.folder, .slice a s.units.length c, .int .i64 s.fresh]) rfl rfl rfl ?_
     rintro sb w1 hx1 hx2 hx3; have c1 := hx1.cell; have SB := Hd hx1; have X1 := Hd hx2; clear hx1 hx2
     clear hx3)
  | (have hgd := HCN.out
     go_at_call 78; refine (hgd _ X1.out).mono ?_; rintro e w2 ⟨rfl, hx3⟩; have sb2 := SB.out.ext hx3; have x2 := X1.out.tr hx3; clear c1 SB X1 hgd hx3 HCN; have SB := Hd sb2; have X1 := Hd x2
     clear sb2 x2))
 go_wp2
 go_loopw [5] (fun t5 wr => ∃ k : Nat, k ≤ s.units.length ∧ t5 = .int .i64 k ∧ Hid (∀ j (h : j < s.units.length), j < k → (s.units[j].pr && !s.units[j].th) = false) ∧ Hid (Ext w2 wr)) (fun t5 _ => s.units.length - (intOf t5).toNat)
 case atStart => exact ⟨0, by omega, rfl, (fun j _ h => absurd h (Nat.not_lt_zero _)), Below.refl _ _⟩
 case round =>
  obtain ⟨k, hk, rfl, HR1, HX⟩ := hrel; have d := (SB.out.ext HX.out).cell; have hkb : k ≤ 1000000 := Nat.le_trans hk HL.out
  by_cases hlt : k < s.units.length
  {
  obtain ⟨b, o, rfl, hc⟩ := UnIn.cells (Hu.out.ext (X1.out.tr HX.out)) (by omega); obtain ⟨_, d1, _, d3, _⟩ := hc k hlt
  have hbad : (s.units[k].pr && !s.units[k].th) = true → safeR s = false := fun h => by
   have : bt = true := (by rw [← HBT.out]; exact any_at hlt h); rw [HR.out, this]; rfl
  have hr2 : (s.units[k].pr && !s.units[k].th) = false → ∀ j (h : j < s.units.length), j < k + 1 → (s.units[j].pr && !s.units[j].th) = false := fun h j hj hjk => by
   rcases Nat.lt_or_ge j k with h1 | h1
   · exact HR1.out j hj h1
   · obtain rfl : j = k := by omega
     exact h
  obtain ⟨x1, hx1⟩ : ∃ x, s.units[k].th = x := ⟨_, rfl⟩; obtain ⟨x3, hx3⟩ : ∃ x, s.units[k].pr = x := ⟨_, rfl⟩; rw [hx1] at d1 hbad hr2; rw [hx3] at d3 hbad hr2; have i1 : (0:Int) ≤ (k:Int) := (by omega); have i2 : (k:Int) < (s.units.length:Int) := (by omega); have HB := Hd hbad; have HR2 := Hd hr2; clear hbad hr2; clear hx1 hx3 hc
  cases x3
  {
  go_wp2_with (fail)
  go_roundw
  case rel => exact ⟨k + 1, by omega, by go_num, HR2.out (by simp), HX⟩
  case measure => simp [intOf] <;> omega
  }
  {
  cases x1
  {
  go_wp2_with (fail)
  go_ret; exact ⟨ret_bool (by rw [HB.out rfl]), X1.out.tr HX.out⟩
  }
  {
  go_wp2_with (fail)
  go_roundw
  case rel => exact ⟨k + 1, by omega, by go_num, HR2.out rfl, HX⟩
  case measure => simp [intOf] <;> omega
  }
  }
  }
  {
  have i2 : decide ((k:Int) < (s.units.length:Int)) = false := decide_eq_false (by omega); obtain rfl : k = s.units.length := (by omega); have hb0 : bt = false := (by rw [← HBT.out]; exact any_take fun j h => HR1.out j h h); have hr0 := HR.out; rw [hb0] at hr0; have HR0 := Hd hr0; clear hr0; clear hb0
  by_cases h0 : s.drive = 0
  {
  have q0 : (s.drive == 0) = true := by simp [h0]
  go_wp2_with (fail)
  go_ret; exact ⟨ret_bool (by rw [HR0.out, if_pos h0]; rw [Bool.eq_iff_iff]; simp), X1.out.tr HX.out⟩
  }
  {
  have q0 : (s.drive == 0) = false := by simp [h0]
  by_cases h1 : s.drive = 1
  {
  have q1 : (s.drive == 1) = true := by simp [h1]
  go_wp2_with (fail)
  go_ret; exact ⟨ret_bool (by rw [HR0.out, if_neg h0, if_pos h1]; rw [Bool.eq_iff_iff]; simp), X1.out.tr HX.out⟩
  }
  {
  have q1 : (s.drive == 1) = false := by simp [h1]
  by_cases h2 : no = 0
  {
  have q2 : ((no:Int) == 0) = true := by simp [h2]
  by_cases h3 : 0 < np
  {
  have i3 : (0:Int) < (np:Int) := by omega
  go_wp2_with (fail)
  go_ret; exact ⟨ret_bool (by rw [HR0.out, if_neg h0, if_neg h1]; simp; omega), X1.out.tr HX.out⟩
  }
  {
  have i3 : ¬ (0:Int) < (np:Int) := by omega
  go_wp2_with (fail)
  go_ret; exact ⟨ret_bool (by rw [HR0.out, if_neg h0, if_neg h1]; simp; omega), X1.out.tr HX.out⟩
  }
  }
  {
  have q2 : ((no:Int) == 0) = false := by simp [h2]
  go_wp2_with (fail)
  go_ret; exact ⟨ret_bool (by rw [HR0.out, if_neg h0, if_neg h1]; simp; omega), X1.out.tr HX.out⟩
  }
  }
  }
  }
set_option maxRecDepth 100000 in
set_option maxHeartbeats 2000000 in
theorem rStarted_any (p : PressD) (s : StD) (vj vu : Value) (w : World) (hj : Truths w vj p.jam) (hu : UnIn w vu s.units) (hl : s.units.length ≤ 1000000) :
 Calls Tryz.prog 46 #[pV vj p, sV vu s] w fun e w' => e = .returned (.int .i64 (stErr p s)) ∧ Ext w w' := by
 have hc := fun w1 (k : Ext w w1) => rCheck_any p vj w1 (Sl.ext hj k); have hsh := fun w1 (k : Ext w w1) => rShaped_any p s vj vu w1 (Sl.ext hj k) (hu.ext k); have hsf := fun w1 (k : Ext w w1) => rSafe_any s vu w1 (hu.ext k) hl; obtain ⟨a, c, rfl, Hu⟩ := hu.form; obtain ⟨_, aj, cj, hvj, _⟩ := id hj; rw [List.length_map] at hvj; subst hvj; clear hu hl; unfold pV sV at *; obtain ⟨e1, he1⟩ : ∃ e, pErr p = e := ⟨_, rfl⟩; obtain ⟨b1, hb1⟩ : ∃ b, shapedD p s = b := ⟨_, rfl⟩; obtain ⟨b2, hb2⟩ : ∃ b, safeR s = b := ⟨_, rfl⟩
 have hst : stErr p s = if e1 ≠ 0 then e1 else if b1 && b2 then 0 else 9 := by
  unfold stErr; rw [he1, hb1]
  cases b1
  · simp
  · have h1 := (shaped_nums hb1).1
    rw [← safe_eq s h1, hb2]
 rw [he1] at hc; rw [hb1] at hsh; rw [hb2] at hsf; have HST := Hd hst; have HC := Hd hc; have HSH := Hd hsh; have HSF := Hd hsf; clear hst hc hsh hsf; clear he1 hb1 hb2
 go_enter Tryz.func46, Tryz.ntmps46
 go_upto_region 2 with (first
  | (with_reducible refine wpList_boxA (t := 24) (cs := #[.slice aj p.jam.length cj, .int .i64 p.warm, .int .i64 p.tail, .int .i64 p.dirt]) rfl rfl rfl ?_
     rintro xb w1 hx1 hx2 hx3; have c1 := hx1.cell; have XB := Hd hx1; have X1 := Hd hx2; clear hx1 hx2
     clear hx3)
  | (with_reducible refine wpList_boxA (t := 27) (cs := #[.int .i64 s.drive, .bool s.folder, .slice a s.units.length c, .int .i64 s.fresh]) rfl rfl rfl ?_
     rintro sb w2 hy1 hy2 hy3; have c2 := (XB.out.ext hy2).cell; have xb2 := XB.out.ext hy2; have x2 := X1.out.tr hy2; have c3 := hy1.cell; clear X1 c1 XB; have SB := Hd hy1; have X1 := Hd x2; have XB := Hd xb2; clear hy1 x2 xb2
     clear hy3 hy2)
  | (have hgd := HC.out
     go_at_call 56; refine (hgd _ X1.out).mono ?_; rintro e w3 ⟨rfl, hx3⟩; have d2 := (XB.out.ext hx3).cell; have d3 := (SB.out.ext hx3).cell; have xb2 := XB.out.ext hx3; have sb2 := SB.out.ext hx3; have x2 := X1.out.tr hx3; clear c2 c3 XB SB X1 hgd hx3; have c2 := d2; have c3 := d3; have XB := Hd xb2; have SB := Hd sb2; have X1 := Hd x2; clear xb2 sb2 x2
     clear d2 d3))
 by_cases h1 : e1 = 0
 {
 subst h1
 cases b1
 {
 go_wp2_with (first
  | (have hgd := HSH.out
     go_at_call 76; refine (hgd _ X1.out).mono ?_; rintro e w3 ⟨rfl, hx3⟩; have d3 := (SB.out.ext hx3).cell; have x2 := X1.out.tr hx3; clear c2 c3 XB SB X1 hgd hx3 HSH; have c3 := d3; have X1 := Hd x2; clear x2
     clear d3)
  | (have hgd := HSF.out
     go_at_call 51; refine (hgd _ X1.out).mono ?_; rintro e w3 ⟨rfl, hx3⟩; have x2 := X1.out.tr hx3; clear X1 hgd hx3 HSF; have X1 := Hd x2
     clear x2)
 )
 go_ret; exact ⟨ret_int (by rw [HST.out]; rfl), X1.out⟩
 }
 {
 cases b2
 {
 go_wp2_with (first
  | (have hgd := HSH.out
     go_at_call 76; refine (hgd _ X1.out).mono ?_; rintro e w3 ⟨rfl, hx3⟩; have d3 := (SB.out.ext hx3).cell; have x2 := X1.out.tr hx3; clear c2 c3 XB SB X1 hgd hx3 HSH; have c3 := d3; have X1 := Hd x2; clear x2
     clear d3)
  | (have hgd := HSF.out
     go_at_call 51; refine (hgd _ X1.out).mono ?_; rintro e w3 ⟨rfl, hx3⟩; have x2 := X1.out.tr hx3; clear X1 hgd hx3 HSF; have X1 := Hd x2
     clear x2)
 )
 go_ret; exact ⟨ret_int (by rw [HST.out]; rfl), X1.out⟩
 }
 {
 go_wp2_with (first
  | (have hgd := HSH.out
     go_at_call 76; refine (hgd _ X1.out).mono ?_; rintro e w3 ⟨rfl, hx3⟩; have d3 := (SB.out.ext hx3).cell; have x2 := X1.out.tr hx3; clear c2 c3 XB SB X1 hgd hx3 HSH; have c3 := d3; have X1 := Hd x2; clear x2
     clear d3)
  | (have hgd := HSF.out
     go_at_call 51; refine (hgd _ X1.out).mono ?_; rintro e w3 ⟨rfl, hx3⟩; have x2 := X1.out.tr hx3; clear X1 hgd hx3 HSF; have X1 := Hd x2
     clear x2)
 )
 go_ret; exact ⟨ret_int (by rw [HST.out]; rfl), X1.out⟩
 }
 }
 }
 {
 have q1 : (e1 == 0) = false := by simp [h1]
 go_wp2_with (fail)
 go_ret; exact ⟨ret_int (by rw [HST.out, if_pos h1]), X1.out⟩
 }
theorem tRUnits : SliceT Tryz.prog 25 63 (.agg #[.bool false, .bool false, .bool false, .bool false, .int .i64 0]) 5 16 := ⟨by kernel_rfl, by kernel_rfl, rfl, by decide, by decide⟩
theorem tRWastes : SliceT Tryz.prog 133 167 (.agg #[.int .i64 0, .int .i64 0, .int .i64 0]) 3 24 := ⟨by kernel_rfl, by kernel_rfl, rfl, by decide, by decide⟩
/-- A state of the reference that is the call's own. -/
structure RS (B : Nat) (w : World) (sb ub c : Nat) (s : StD) : Prop where
 bs : Blk w sb #[.int .i64 s.drive, .bool s.folder, .slice (some ⟨ub, 0, none⟩) s.units.length c, .int .i64 s.fresh] 27
 bu : ∃ cs, Blk w ub cs 63 ∧ (s.units.length ≤ c ∧ c ≤ maxLen ∧ cs.size = c * 5) ∧ cs.toList.take (s.units.length * 5) = uL s.units
 ls : B ≤ sb
 lu : B ≤ ub
section
variable {B : Nat} {w w' : World} {sb ub c : Nat} {s : StD}
theorem RS.only {S : Nat → Prop} (h : RS B w sb ub c s) (k : Only S w w') (hm : ¬ S sb) (hu : ¬ S ub) : RS B w' sb ub c s := by
 obtain ⟨cs, hb, hn, ht⟩ := h.bu; exact ⟨h.bs.only k hm, ⟨cs, hb.only k hu, hn, ht⟩, h.ls, h.lu⟩
theorem RS.ext (h : RS B w sb ub c s) (k : Ext w w') : RS B w' sb ub c s :=
 h.only (S := fun _ => False) (Only.of_ext k) id id
theorem RS.su (h : RS B w sb ub c s) : sb ≠ ub := fun e => by
 obtain ⟨cs, hb, _⟩ := h.bu; exact absurd (blk_ty h.bs (e ▸ hb)) (by decide)
theorem RS.at (h : RS B w sb ub c s) {i : Nat} (hi : i < s.units.length) :
 w.cell? ⟨ub, i * 5, none⟩ = some (.bool s.units[i].op) ∧ w.cell? ⟨ub, i * 5 + 1, none⟩ = some (.bool s.units[i].th) ∧ w.cell? ⟨ub, i * 5 + 2, none⟩ = some (.bool s.units[i].cl) ∧ w.cell? ⟨ub, i * 5 + 3, none⟩ = some (.bool s.units[i].pr) ∧ w.cell? ⟨ub, i * 5 + 4, none⟩ = some (.int .i64 s.units[i].ink) := by
 obtain ⟨cs, hb, ⟨h1, h2, h3⟩, ht⟩ := h.bu
 have e : ∀ j, j < 5 → w.cell? ⟨ub, i * 5 + j, none⟩ = (uC s.units[i])[j]? := fun j hj => by
  rw [hb.cell, ← uL_get s.units i j hi hj, ← ht, List.getElem?_take_of_lt (by omega), Array.getElem?_toList]
 exact ⟨e 0 (by omega), e 1 (by omega), e 2 (by omega), e 3 (by omega), e 4 (by omega)⟩
theorem RS.room (h : RS B w sb ub c s) : ∃ cs, Blk w ub cs 63 ∧ s.units.length * 5 ≤ cs.size := by
 obtain ⟨cs, hb, ⟨h1, h2, h3⟩, ht⟩ := h.bu; exact ⟨cs, hb, by omega⟩
theorem RS.own (h : RS B w sb ub c s) : w.ownsRow B 63 5 (.slice (some ⟨ub, 0, none⟩) s.units.length c) s.units.length (uL s.units) := by
 obtain ⟨cs, hb, ⟨h1, h2, h3⟩, ht⟩ := h.bu; exact ⟨uL_len _, .inr ⟨ub, c, cs, rfl, h.lu, hb, h1, h2, h3, ht⟩⟩
theorem RS.setU {cs : Array Value} {i j : Nat} {u : UnitD} {v : Value} (h : RS B w sb ub c s) (hb : Blk w ub cs 63) (hi : i < s.units.length) (hj : j < 5) (hu : uC u = (uC s.units[i]).set j v)
 (hb1 : Blk w' ub (cs.setIfInBounds (i * 5 + j) v) 63) (ho : Only (fun k => k = ub) w w') : RS B w' sb ub c { s with units := s.units.set i u } := by
 obtain ⟨cs', hb', ⟨h1, h2, h3⟩, ht⟩ := h.bu
 have e : cs' = cs := by
  have := hb'.symm.trans hb; simp only [Option.some.injEq, Obj.cells.injEq] at this; exact this.1
 subst e; have hl : ({ s with units := s.units.set i u } : StD).units.length = s.units.length := List.length_set; refine ⟨?_, ⟨_, hb1, ⟨?_, h2, ?_⟩, ?_⟩, h.ls, h.lu⟩
 · rw [hl]; exact h.bs.only ho h.su
 · rw [hl]; exact h1
 · rw [Array.size_setIfInBounds]; exact h3
 · rw [hl, Array.toList_setIfInBounds, List.take_set, ht]
   exact uL_set hi hj hu
theorem RS.setS {s' : StD} (h : RS B w sb ub c s) (hu : s'.units = s.units) (hb : Blk w' sb #[.int .i64 s'.drive, .bool s'.folder, .slice (some ⟨ub, 0, none⟩) s.units.length c, .int .i64 s'.fresh] 27)
 (ho : Only (fun k => k = sb) w w') : RS B w' sb ub c s' := by
 obtain ⟨cs, hbu, hn, ht⟩ := h.bu; exact ⟨by rw [hu]; exact hb, ⟨cs, hbu.only ho (fun e => h.su e.symm), by rw [hu]; exact hn, by rw [hu]; exact ht⟩, h.ls, h.lu⟩
theorem RS.bs' (h : RS B w sb ub c s) {dr f : Int} {fo : Bool} {l : Nat} (h1 : s.drive = dr) (h2 : s.folder = fo) (h3 : s.units.length = l) (h4 : s.fresh = f) :
 Blk w sb #[.int .i64 dr, .bool fo, .slice (some ⟨ub, 0, none⟩) l c, .int .i64 f] 27 := by
 subst h1; subst h2; subst h3; subst h4; exact h.bs
theorem RS.mk' {v : Value} (hv : v = .slice (some ⟨ub, 0, none⟩) s.units.length c) (hs : Blk w sb #[.int .i64 s.drive, .bool s.folder, v, .int .i64 s.fresh] 27)
 (hu : w.ownsRow B 63 5 v s.units.length (uL s.units)) (h0 : 0 < s.units.length) (ls : B ≤ sb) : RS B w sb ub c s := by
 have hlu := (hu.lt ub (by rw [hv]; rfl)).1; subst hv; refine ⟨hs, ?_, ls, hlu⟩
 rcases hu.2 with ⟨_, e⟩ | ⟨g, cap, cur, hv, _, hb, hc, hm, hs, ht⟩
 omega
 · cases hv
   exact ⟨cur, hb, ⟨hc, hm, hs⟩, ht⟩
end
theorem inked_zero (u : UnitD) : inked 0 u = u := by
 unfold inked; split
 · simp
 rfl
theorem inked_add (a b : Int) (u : UnitD) : inked b (inked a u) = inked (a + b) u := by
 unfold inked
 split
 · rename_i h
   simp [h, Int.add_assoc]
 · rename_i h
   first | rfl | rw [if_neg h]
theorem map_inked_zero (us : List UnitD) : us.map (inked 0) = us := by
 have : inked 0 = id := funext inked_zero; rw [this, List.map_id]
theorem map_inked_succ (us : List UnitD) (n : Int) : (us.map (inked n)).map (inked 1) = us.map (inked (n + 1)) := by
 rw [List.map_map]
 congr 1
 funext u
 exact inked_add n 1 u
theorem prD_zero (s : StD) : prD s 0 = s := by
 unfold prD; rw [map_inked_zero, Int.add_zero]
theorem prD_len (s : StD) (n : Int) : (prD s n).units.length = s.units.length := by unfold prD; simp
/-- A pressed tower is dirty. -/
def dirtyU (D : Int) (u : UnitD) : Bool := u.pr && decide (D ≤ u.ink)
theorem any_dirty (us : List UnitD) (D n : Int) : (us.map (inked n)).any (dirtyU D) = us.any fun u => u.pr && decide (D ≤ u.ink + n) := by
 rw [List.any_map]
 congr 1
 funext u
 unfold dirtyU inked; simp only [Function.comp]
 split
 · rename_i h; simp [h]
 { rename_i h; have : u.pr = false := (by simpa using h); simp [this] }
theorem any_snoc (f : UnitD → Bool) (us : List UnitD) (k : Nat) (hk : k < us.length) : (us.take (k + 1)).any f = ((us.take k).any f || f us[k]) := by
 rw [List.take_succ_eq_append_getElem hk, List.any_append]; simp
theorem midU_same (n : Int) (us : List UnitD) (k : Nat) (hk : k < us.length) (h : us[k].pr = false) : midU n us (k + 1) = midU n us k := by
 rw [midU_succ n us k hk]; have h1 : inked n us[k] = us[k] := (by unfold inked; rw [if_neg (by simp [h])]); have h2 := midU_at n us k hk; rw [h1]
 conv => lhs; rw [← h2]
 rw [List.set_getElem_self]
theorem owns_putN {w w' : World} {B sz : Nat} {e : TypeId} {g c n i : Nat} {cur : Array Value} {u : Value} {xs : List Value} (h : w.ownsRow B e sz (.slice (some ⟨g, 0, none⟩) n c) n xs) (hb : Blk w g cur e) (hb1 : Blk w' g (cur.setIfInBounds i u) e) :
 w'.ownsRow B e sz (.slice (some ⟨g, 0, none⟩) n c) n (xs.set i u) := by
 obtain ⟨h1, h2⟩ := h; refine ⟨by rw [List.length_set]; exact h1, ?_⟩
 rcases h2 with ⟨hv, _⟩ | ⟨g', c', cur', hv, h3, hh, h4, h5, h6, h7⟩
 · cases hv
 {
 cases hv
 have e1 : cur' = cur := by
  have := hh.symm.trans hb; simp only [Option.some.injEq, Obj.cells.injEq] at this; exact this.1
 subst e1; refine .inr ⟨g, c, _, rfl, h3, hb1, h4, h5, by rw [Array.size_setIfInBounds]; exact h6, ?_⟩; rw [Array.toList_setIfInBounds, List.take_set, h7]
 }
theorem owns_blkN {w : World} {B sz : Nat} {e : TypeId} {v : Value} {n : Nat} {xs : List Value} (h : w.ownsRow B e sz v n xs) (hn : 0 < n) : ∃ g c cur, v = .slice (some ⟨g, 0, none⟩) n c ∧ Blk w g cur e ∧ n * sz ≤ cur.size ∧ cur.toList.take (n * sz) = xs := by
 obtain ⟨h1, h2⟩ := h
 rcases h2 with ⟨_, h0⟩ | ⟨g, c, cur, hv, _, hh, h3, _, h5, h6⟩
 omega
 · exact ⟨g, c, cur, hv, hh, by rw [h5]; exact Nat.mul_le_mul_right _ h3, h6⟩
theorem spL_len (l : List SpanD) : (spL l).length = l.length * 3 := by
 unfold spL
 induction l with
 | nil => rfl
 | cons x l ih => rw [List.flatMap_cons, List.length_append, ih, List.length_cons, Nat.succ_mul]; simp [spC]; omega
theorem spL_snoc (l : List SpanD) (x : SpanD) : spL (l ++ [x]) = spL l ++ spC x := by unfold spL; rw [List.flatMap_append]; simp
theorem spL_set (l : List SpanD) (x : SpanD) (n : Int) : (spL (l ++ [x])).set (l.length * 3 + 2) (.int .i64 n) = spL (l ++ [⟨x.cause, x.lo, n⟩]) := by
 rw [spL_snoc, spL_snoc, List.set_append_right _ _ (by rw [spL_len]; omega), spL_len, show l.length * 3 + 2 - l.length * 3 = 2 by omega]; rfl
theorem spL_last (l : List SpanD) (x : SpanD) : (spL (l ++ [x]))[l.length * 3]? = some (.int .i64 x.cause) ∧ (spL (l ++ [x]))[l.length * 3 + 1]? = some (.int .i64 x.lo) ∧ (spL (l ++ [x]))[l.length * 3 + 2]? = some (.int .i64 x.hi) := by
 rw [spL_snoc]
 have e : ∀ j, (spL l ++ spC x)[l.length * 3 + j]? = (spC x)[j]? := fun j => by
  rw [List.getElem?_append_right (by rw [spL_len]; omega), spL_len, show l.length * 3 + j - l.length * 3 = j by omega]
 exact ⟨e 0, e 1, e 2⟩
theorem spansN_len (W f D k n : Int) : (spansN W f D k n).length ≤ 2 := by
 unfold spansN; rw [List.length_append]; split <;> split <;> simp
theorem safe_any {p : PressD} {s : StD} (h : stErr p s = 0) (h2 : s.drive = 2) : s.units.any (·.pr) = true := by
 obtain ⟨_, _, h3⟩ := stErr_ok h; unfold safeD at h3; simp only [Bool.and_eq_true, Bool.or_eq_true] at h3
 rcases h3.2 with h4 | h4
 · rw [h2] at h4; simp at h4
 · exact h4
/-- What the reference's Print answers. -/
def RPrPost (w : World) (p : PressD) (s : StD) (n : Int) (e : Ending) (w' : World) : Prop :=
 (prErr p s n ≠ 0 ∧ e = .returned (.tuple #[sZ, .slice none 0 0, .int .i64 (prErr p s n)]) ∧ Ext w w') ∨
 (prErr p s n = 0 ∧ ∃ vu vw, e = .returned (.tuple #[sV vu (prD s n), vw, .int .i64 0]) ∧ w'.ownsRow w.heap.size 63 5 vu s.units.length (uL (prD s n).units) ∧
   w'.ownsRow w.heap.size 167 3 vw (prW p s n).length (spL (prW p s n)) ∧ Ext w w')
end Go.Proofs.YtojobdffnnibaaaGreat