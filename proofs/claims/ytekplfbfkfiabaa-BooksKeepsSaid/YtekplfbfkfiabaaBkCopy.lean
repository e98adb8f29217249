/- Copy of the program. -/
import Derived.Test.YtekplfbfkfiabaaBkAudit
import Derived.Test.YtekplfbfkfiabaaBkKit
import Derived.Laws.Rows
namespace Go.Proofs.Ytekplfbfkfiabaa
open Go.RowKit
set_option linter.unusedVariables false
set_option linter.unusedSimpArgs false

theorem ledA_one (d : LedD) (m : LMem) (h : m.ve.oneCell' = true) : (ledA d m).all (·.oneCell') = true := by
  rw [Array.all_eq_true_iff_forall_mem]
  intro v hv
  unfold ledA at hv
  rw [List.mem_toArray] at hv
  rcases List.mem_cons.1 hv with rfl | hv
  · rfl
  rcases List.mem_cons.1 hv with rfl | hv
  · rfl
  rcases List.mem_cons.1 hv with rfl | hv
  · exact h
  rcases List.mem_append.1 hv with hv | hv
  · unfold balC at hv
    obtain ⟨i, _, rfl⟩ := List.mem_map.1 hv
    rfl
  · rw [List.mem_singleton.1 hv]; rfl
theorem ledA_ve (d : LedD) (m : LMem) (v : Value) : (ledA d m).setIfInBounds 2 v = ledA d { m with ve := v } := by
  unfold ledA
  simp only [List.setIfInBounds_toArray]
  rfl
theorem tLedger : ∃ fs, Try.prog.underlying 97 = some (.struct fs) := ⟨_, Try.underlying97⟩

set_option maxRecDepth 100000 in
set_option maxHeartbeats 2000000 in
theorem copy_any (B lb : Nat) (d : LedD) (m : LMem) (w : World) (h : LSt w B lb d m) (ok : LedOk d) :
    Calls Try.prog 43 #[.pointer (some ⟨lb, 0, none⟩)] w fun e w' => ∃ lb2 v, e = .returned (.tuple #[.pointer (some ⟨lb2, 0, none⟩), .int .i64 0]) ∧ LSt w' w.heap.size lb2 d { m with ve := v } ∧ lb < lb2 ∧ (∀ b, v.ownBlock = some b → lb < b ∧ m.ve.ownBlock ≠ some b) ∧ Ext w w' := by
  have c0 := h.c0
  have c2 := h.c2
  have hone : m.ve.oneCell' = true := by obtain ⟨a, c, hv⟩ := row_form h.ents; rw [hv]; rfl
  have hcl := fun W (k : Ext w W) => cloneS_any d.ents m.ve W ((h.ext k).sig ok.len) (by have := ok.len; omega)
  have hsz : (Try.prog.info? 97).map (·.size) = some (ledA d m).size := by rw [ledA_size]; kernel_rfl
  have hva := h.va_lt ok
  have hve := fun b hb => (h.ents.lt b hb).2
  obtain ⟨fs, htl⟩ := tLedger
  have hled : w.heap[lb]? = some (Obj.cells (ledA d m) 97 (0, 0)) := h.led
  have HLD := Lib.hid hled
  clear hled
  have L := Lib.hid h
  have ONE := Lib.hid hone
  have HCL := Lib.hid hcl
  have SZ := Lib.hid hsz
  have VA := Lib.hid hva
  have VE := Lib.hid hve
  have TL := Lib.hid htl
  clear h hone hcl hsz hva hve htl
  go_enter Try.func43, Try.ntmps43
  go_wp2_with (first
    | (go_at_call 66; refine (none_any lb m.ab _ c0).mono ?_; rintro e w' ⟨rfl, rfl⟩)
    | (with_reducible refine wpList_load_row rfl 97 _ rfl lb ?_ 97 (ledA d m) (0, 0) _ HLD.out TL.out ?_ SZ.out ?_
       · rfl
       · rfl)
    | (with_reducible refine wpList_allocA (t := 97) rfl rfl Try.zeroValue97 ?_
       rintro pb w3 hb3 hx3 hl3
       have lpb : w.heap.size ≤ pb := hl3
       have PB := Lib.hid hb3
       have LPB := Lib.hid lpb
       have X := Lib.hid hx3
       clear hb3 lpb hx3
       clear hl3 c0)
    | (with_reducible refine wpList_storeK (ty := 97) (cells := ledA d m) rfl rfl PB.out ?_ ?_ SZ.out ?_ ?_ ?_
       · rfl
       · rfl
       · rw [ledA_size]; rfl
       · exact ledA_one d m ONE.out
       rintro w4 hb4 ho4
       have hx4 := X.out.then_only ho4 (fun q e => by rw [e]; exact LPB.out)
       clear PB X ho4
       replace c2 := hx4.cellSome c2
       have hp4 := hb4.lt
       have PB := Lib.hid hb4
       have X := Lib.hid hx4
       have PB4 := Lib.hid hp4
       clear hb4 hx4 hp4)
    | (go_at_call 74
       refine (HCL.out _ X.out).mono ?_
       rintro e w5 ⟨v5, rfl, hx5, ho5⟩
       replace PB := Lib.hid (PB.out.ext hx5)
       replace X := Lib.hid (X.out.ext hx5)
       clear hx5 c2
       have OV := Lib.hid ho5
       clear ho5)
    | (with_reducible refine wpList_setK (i := 2) (v := v5) rfl rfl PB.out ?_ ?_ ?_ ?_ ?_ ?_ ?_
       · rfl
       · rfl
       · rw [ledA_size]; decide
       · kernel_rfl
       · obtain ⟨a, c, hv⟩ := row_form OV.out; rw [hv]; rfl
       · obtain ⟨a, c, hv⟩ := row_form OV.out; rw [hv]; rfl
       rintro w6 hb6 ho6
       rw [ledA_ve] at hb6
       have hx6 := X.out.then_only ho6 (fun q e => by rw [e]; exact LPB.out)
       have hov : ∀ b, v5.ownBlock = some b → w4.heap.size ≤ b := fun b hb => (OV.out.lt b hb).1
       have hp4 : pb < w4.heap.size := PB4.out
       have hov6 := owns_only OV.out ho6 (fun b hb e => by have := hov b hb; have e2 : b = pb := e; omega)
       clear PB X ho6
       have PB := Lib.hid hb6
       have X := Lib.hid hx6
       have OV6 := Lib.hid hov6
       have HOV := Lib.hid hov
       have HP4 := Lib.hid hp4
       clear hb6 hx6 hov6 hov hp4))
  go_ret2
  have hlb := L.out.led.lt
  have hlp := LPB.out
  have hab := L.out.acc.lt
  have hp44 := HP4.out
  refine ⟨pb, v5, rfl, ⟨LPB.out, PB.out, L.out.acc.ext X.out, StIn.ext accC_len L.out.row X.out, owns_weak OV6.out (by omega), by show m.ab ≠ pb; omega, fun b hb => ?_, fun b hb => ?_⟩, by omega, fun b hb => ?_, X.out⟩
  · have := VA.out b hb; omega
  · have h1 := HOV.out b hb
    have h2 := HP4.out
    refine ⟨by omega, by show b ≠ m.ab; omega, fun h3 => ?_⟩
    have := VA.out b h3
    omega
  · have h1 := HOV.out b hb
    have h2 := HP4.out
    refine ⟨by omega, fun h3 => ?_⟩
    have := VE.out b h3
    omega
end Go.Proofs.Ytekplfbfkfiabaa
