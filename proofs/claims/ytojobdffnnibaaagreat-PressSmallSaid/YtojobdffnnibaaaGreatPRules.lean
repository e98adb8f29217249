/- The rules of all actions. -/
import Derived.Test.YtojobdffnnibaaaGreatPMap
namespace Go.Proofs.YtojobdffnnibaaaGreat
open Go.RowKit
set_option linter.unusedVariables false
set_option linter.unusedSimpArgs false
abbrev fnV (f : Nat) : Value := .func (.func f) #[] #[]
abbrev drV (b : Nat) : Value := .func (.func 87) #[] #[.pointer (some ⟨b, 0, none⟩)]
/-- The rule of a kind; b7, b8, b9 hold the drives. -/
def ruleV (u : Bool) (ok do_ : Value) : Value := .agg #[.bool u, ok, do_]
def ruleL (b7 b8 b9 : Nat) : List (Value × Value) :=
 [(.int .i64 1, .agg #[.bool true, fnV 88, fnV 89]),
  (.int .i64 2, .agg #[.bool true, fnV 90, fnV 91]),
  (.int .i64 3, .agg #[.bool true, fnV 92, fnV 93]),
  (.int .i64 4, .agg #[.bool true, fnV 94, fnV 97]),
  (.int .i64 5, .agg #[.bool true, fnV 98, fnV 99]),
  (.int .i64 6, .agg #[.bool true, fnV 100, fnV 101]),
  (.int .i64 7, .agg #[.bool false, fnV 102, drV b7]),
  (.int .i64 8, .agg #[.bool false, fnV 103, drV b8]),
  (.int .i64 9, .agg #[.bool false, fnV 104, drV b9]),
  (.int .i64 10, .agg #[.bool false, fnV 105, fnV 106]),
  (.int .i64 11, .agg #[.bool false, fnV 107, fnV 108]),
  (.int .i64 12, .agg #[.bool true, fnV 109, fnV 110])]
theorem drive_any (dr : Int) (w : World) :
 Calls Tryz.prog 86 #[.int .i64 dr] w fun e w' => ∃ b, e = .returned (drV b) ∧ Blk w' b #[.int .i64 dr] 3 ∧ w.heap.size ≤ b ∧ Ext w w' := by
 go_enter Tryz.func86, Tryz.ntmps86
 go_wp2_with (
  refine wpList_box1 (t := 3) rfl rfl rfl rfl ?_; rintro b w1 hx1 hx2 hx3; have B1 := Hd hx1; have X1 := Hd hx2; have L1 := Hd hx3
  clear hx1 hx2 hx3)
 go_ret; exact ⟨_, rfl, B1.out, L1.out, X1.out⟩
def RulesPost (w : World) (e : Ending) (w' : World) : Prop :=
 ∃ mb b7 b8 b9, e = .returned (.map (some mb)) ∧ MapR Tryz.prog 3 w' mb (ruleL b7 b8 b9) ∧ Blk w' b7 #[.int .i64 1] 3 ∧ Blk w' b8 #[.int .i64 2] 3 ∧ Blk w' b9 #[.int .i64 0] 3 ∧ w.heap.size ≤ mb ∧ w.heap.size ≤ b7 ∧ w.heap.size ≤ b8 ∧ w.heap.size ≤ b9 ∧ Ext w w'
set_option maxRecDepth 100000 in
set_option maxHeartbeats 4000000 in
theorem rules_any (w : World) : Calls Tryz.prog 73 #[] w (RulesPost w) := by
 go_enter Tryz.func73, Tryz.ntmps73
 go_wp2_with (first
  | (with_reducible refine wpList_makeMapR (k := 3) rfl rfl ?_
     rintro mb w1 h1 h2 h3; have MR := Hd h1; have X1 := Hd h2; have LM := Hd h3
     clear h1 h2 h3)
  | (have lmb := MR.out.lt
     fail_if_success (have := B7.out)
     skip; go_at_call 86; refine (drive_any 1 _).mono ?_; rintro e w2 ⟨b7, rfl, hb, hl, hx⟩; have n7 : b7 ≠ mb := (by omega); have l7 : w.heap.size ≤ b7 := Nat.le_trans X1.out.size hl; have mr := MR.out.ext hx; have x2 := X1.out.tr hx
     (try replace B7 := Hd (B7.out.ext hx))
     (try replace B8 := Hd (B8.out.ext hx))
     clear MR X1 hx lmb hl; have MR := Hd mr; have X1 := Hd x2; have B7 := Hd hb; have N7 := Hd n7; have L7 := Hd l7
     clear mr x2 hb n7 l7)
  | (have lmb := MR.out.lt
     fail_if_success (have := B8.out)
     have := B7.out; go_at_call 86; refine (drive_any 2 _).mono ?_; rintro e w2 ⟨b8, rfl, hb, hl, hx⟩; have n8 : b8 ≠ mb := (by omega); have l8 : w.heap.size ≤ b8 := Nat.le_trans X1.out.size hl; have mr := MR.out.ext hx; have x2 := X1.out.tr hx
     (try replace B7 := Hd (B7.out.ext hx))
     (try replace B8 := Hd (B8.out.ext hx))
     clear MR X1 hx lmb hl; have MR := Hd mr; have X1 := Hd x2; have B8 := Hd hb; have N8 := Hd n8; have L8 := Hd l8
     clear mr x2 hb n8 l8)
  | (have lmb := MR.out.lt
     fail_if_success (have := B9.out)
     have := B8.out; go_at_call 86; refine (drive_any 0 _).mono ?_; rintro e w2 ⟨b9, rfl, hb, hl, hx⟩; have n9 : b9 ≠ mb := (by omega); have l9 : w.heap.size ≤ b9 := Nat.le_trans X1.out.size hl; have mr := MR.out.ext hx; have x2 := X1.out.tr hx
     (try replace B7 := Hd (B7.out.ext hx))
     (try replace B8 := Hd (B8.out.ext hx))
     clear MR X1 hx lmb hl; have MR := Hd mr; have X1 := Hd x2; have B9 := Hd hb; have N9 := Hd n9; have L9 := Hd l9
     clear mr x2 hb n9 l9)
  | (refine wpList_insertR (t := 156) (l := []) (kx := .int .i64 1) (vx := .agg #[.bool true, fnV 88, fnV 89]) rfl rfl kInt uRules MR.out rfl rfl rfl (keyInt (by unfold I64; decide)) (by simp) ?_
     rintro w2 h1 h2; have x2 := X1.out.then_only h2 (fun i (e : i = mb) => by rw [e]; exact LM.out); have h3 : MapR Tryz.prog 3 w2 mb [(.int .i64 1, .agg #[.bool true, fnV 88, fnV 89])] := h1
     (try (have hn : b7 ≠ mb := N7.out
           replace B7 := Hd (B7.out.only h2 hn)
           clear hn))
     (try (have hn : b8 ≠ mb := N8.out
           replace B8 := Hd (B8.out.only h2 hn)
           clear hn))
     (try (have hn : b9 ≠ mb := N9.out
           replace B9 := Hd (B9.out.only h2 hn)
           clear hn))
     clear X1 MR h2 h1; have MR := Hd h3; have X1 := Hd x2
     clear h3 x2)
  | (refine wpList_insertR (t := 156) (l := [(.int .i64 1, .agg #[.bool true, fnV 88, fnV 89])]) (kx := .int .i64 2) (vx := .agg #[.bool true, fnV 90, fnV 91]) rfl rfl kInt uRules MR.out rfl rfl rfl (keyInt (by unfold I64; decide)) (by simp) ?_
     rintro w2 h1 h2; have x2 := X1.out.then_only h2 (fun i (e : i = mb) => by rw [e]; exact LM.out); have h3 : MapR Tryz.prog 3 w2 mb [(.int .i64 1, .agg #[.bool true, fnV 88, fnV 89]), (.int .i64 2, .agg #[.bool true, fnV 90, fnV 91])] := h1
     (try (have hn : b7 ≠ mb := N7.out
           replace B7 := Hd (B7.out.only h2 hn)
           clear hn))
     (try (have hn : b8 ≠ mb := N8.out
           replace B8 := Hd (B8.out.only h2 hn)
           clear hn))
     (try (have hn : b9 ≠ mb := N9.out
           replace B9 := Hd (B9.out.only h2 hn)
           clear hn))
     clear X1 MR h2 h1; have MR := Hd h3; have X1 := Hd x2
     clear h3 x2)
  | (refine wpList_insertR (t := 156) (l := [(.int .i64 1, .agg #[.bool true, fnV 88, fnV 89]), (.int .i64 2, .agg #[.bool true, fnV 90, fnV 91])]) (kx := .int .i64 3) (vx := .agg #[.bool true, fnV 92, fnV 93]) rfl rfl kInt uRules MR.out rfl rfl rfl (keyInt (by unfold I64; decide)) (by simp) ?_
     rintro w2 h1 h2; have x2 := X1.out.then_only h2 (fun i (e : i = mb) => by rw [e]; exact LM.out); have h3 : MapR Tryz.prog 3 w2 mb [(.int .i64 1, .agg #[.bool true, fnV 88, fnV 89]), (.int .i64 2, .agg #[.bool true, fnV 90, fnV 91]), (.int .i64 3, .agg #[.bool true, fnV 92, fnV 93])] := h1
     (try (have hn : b7 ≠ mb := N7.out
           replace B7 := Hd (B7.out.only h2 hn)
           clear hn))
     (try (have hn : b8 ≠ mb := N8.out
           replace B8 := Hd (B8.out.only h2 hn)
           clear hn))
     (try (have hn : b9 ≠ mb := N9.out
           replace B9 := Hd (B9.out.only h2 hn)
           clear hn))
     clear X1 MR h2 h1; have MR := Hd h3; have X1 := Hd x2
     clear h3 x2)
  | (refine wpList_insertR (t := 156) (l := [(.int .i64 1, .agg #[.bool true, fnV 88, fnV 89]), (.int .i64 2, .agg #[.bool true, fnV 90, fnV 91]), (.int .i64 3, .agg #[.bool true, fnV 92, fnV 93])]) (kx := .int .i64 4) (vx := .agg #[.bool true, fnV 94, fnV 97]) rfl rfl kInt uRules MR.out rfl rfl rfl (keyInt (by unfold I64; decide)) (by simp) ?_
     rintro w2 h1 h2; have x2 := X1.out.then_only h2 (fun i (e : i = mb) => by rw [e]; exact LM.out); have h3 : MapR Tryz.prog 3 w2 mb [(.int .i64 1, .agg #[.bool true, fnV 88, fnV 89]), (.int .i64 2, .agg #[.bool true, fnV 90, fnV 91]), (.int .i64 3, .agg #[.bool true, fnV 92, fnV 93]), (.int .i64 4, .agg #[.bool true, fnV 94, fnV 97])] := h1
     (try (have hn : b7 ≠ mb := N7.out
           replace B7 := Hd (B7.out.only h2 hn)
           clear hn))
     (try (have hn : b8 ≠ mb := N8.out
           replace B8 := Hd (B8.out.only h2 hn)
           clear hn))
     (try (have hn : b9 ≠ mb := N9.out
           replace B9 := Hd (B9.out.only h2 hn)
           clear hn))
     clear X1 MR h2 h1; have MR := Hd h3; have X1 := Hd x2
     clear h3 x2)
  | (refine wpList_insertR (t := 156) (l := [(.int .i64 1, .agg #[.bool true, fnV 88, fnV 89]), (.int .i64 2, .agg #[.bool true, fnV 90, fnV 91]), (.int .i64 3, .agg #[.bool true, fnV 92, fnV 93]), (.int .i64 4, .agg #[.bool true, fnV 94, fnV 97])]) (kx := .int .i64 5) (vx := .agg #[.bool true, fnV 98, fnV 99]) rfl rfl kInt uRules MR.out rfl rfl rfl (keyInt (by unfold I64; decide)) (by simp) ?_
     rintro w2 h1 h2; have x2 := X1.out.then_only h2 (fun i (e : i = mb) => by rw [e]; exact LM.out); have h3 : MapR Tryz.prog 3 w2 mb [(.int .i64 1, .agg #[.bool true, fnV 88, fnV 89]), (.int .i64 2, .agg #[.bool true, fnV 90, fnV 91]), (.int .i64 3, .agg #[.bool true, fnV 92, fnV 93]), (.int .i64 4, .agg #[.bool true, fnV 94, fnV 97]), (.int .i64 5, .agg #[.bool true, fnV 98, fnV 99])] := h1
     (try (have hn : b7 ≠ mb := N7.out
           replace B7 := Hd (B7.out.only h2 hn)
           clear hn))
     (try (have hn : b8 ≠ mb := N8.out
           replace B8 := Hd (B8.out.only h2 hn)
           clear hn))
     (try (have hn : b9 ≠ mb := N9.out
           replace B9 := Hd (B9.out.only h2 hn)
           clear hn))
     clear X1 MR h2 h1; have MR := Hd h3; have X1 := Hd x2
     clear h3 x2)
  | (refine wpList_insertR (t := 156) (l := [(.int .i64 1, .agg #[.bool true, fnV 88, fnV 89]), (.int .i64 2, .agg #[.bool true, fnV 90, fnV 91]), (.int .i64 3, .agg #[.bool true, fnV 92, fnV 93]), (.int .i64 4, .agg #[.bool true, fnV 94, fnV 97]), (.int .i64 5, .agg #[.bool true, fnV 98, fnV 99])]) (kx := .int .i64 6) (vx := .agg #[.bool true, fnV 100, fnV 101]) rfl rfl kInt uRules MR.out rfl rfl rfl (keyInt (by unfold I64; decide)) (by simp) ?_
     rintro w2 h1 h2; have x2 := X1.out.then_only h2 (fun i (e : i = mb) => by rw [e]; exact LM.out); have h3 : MapR Tryz.prog 3 w2 mb [(.int .i64 1, .agg #[.bool true, fnV 88, fnV 89]), (.int .i64 2, .agg #[.bool true, fnV 90, fnV 91]), (.int .i64 3, .agg #[.bool true, fnV 92, fnV 93]), (.int .i64 4, .agg #[.bool true, fnV 94, fnV 97]), (.int .i64 5, .agg #[.bool true, fnV 98, fnV 99]), (.int .i64 6, .agg #[.bool true, fnV 100, fnV 101])] := h1
     (try (have hn : b7 ≠ mb := N7.out
           replace B7 := Hd (B7.out.only h2 hn)
           clear hn))
     (try (have hn : b8 ≠ mb := N8.out
           replace B8 := Hd (B8.out.only h2 hn)
           clear hn))
     (try (have hn : b9 ≠ mb := N9.out
           replace B9 := Hd (B9.out.only h2 hn)
           clear hn))
     clear X1 MR h2 h1; have MR := Hd h3; have X1 := Hd x2
     clear h3 x2)
  | (refine wpList_insertR (t := 156) (l := [(.int .i64 1, .agg #[.bool true, fnV 88, fnV 89]), (.int .i64 2, .agg #[.bool true, fnV 90, fnV 91]), (.int .i64 3, .agg #[.bool true, fnV 92, fnV 93]), (.int .i64 4, .agg #[.bool true, fnV 94, fnV 97]), (.int .i64 5, .agg #[.bool true, fnV 98, fnV 99]), (.int .i64 6, .agg #[.bool true, fnV 100, fnV 101])]) (kx := .int .i64 7) (vx := .agg #[.bool false, fnV 102, drV b7]) rfl rfl kInt uRules MR.out rfl rfl rfl (keyInt (by unfold I64; decide)) (by simp) ?_
     rintro w2 h1 h2; have x2 := X1.out.then_only h2 (fun i (e : i = mb) => by rw [e]; exact LM.out); have h3 : MapR Tryz.prog 3 w2 mb [(.int .i64 1, .agg #[.bool true, fnV 88, fnV 89]), (.int .i64 2, .agg #[.bool true, fnV 90, fnV 91]), (.int .i64 3, .agg #[.bool true, fnV 92, fnV 93]), (.int .i64 4, .agg #[.bool true, fnV 94, fnV 97]), (.int .i64 5, .agg #[.bool true, fnV 98, fnV 99]), (.int .i64 6, .agg #[.bool true, fnV 100, fnV 101]), (.int .i64 7, .agg #[.bool false, fnV 102, drV b7])] := h1
     (try (have hn : b7 ≠ mb := N7.out
           replace B7 := Hd (B7.out.only h2 hn)
           clear hn))
     (try (have hn : b8 ≠ mb := N8.out
           replace B8 := Hd (B8.out.only h2 hn)
           clear hn))
     (try (have hn : b9 ≠ mb := N9.out
           replace B9 := Hd (B9.out.only h2 hn)
           clear hn))
     clear X1 MR h2 h1; have MR := Hd h3; have X1 := Hd x2
     clear h3 x2)
  | (refine wpList_insertR (t := 156) (l := [(.int .i64 1, .agg #[.bool true, fnV 88, fnV 89]), (.int .i64 2, .agg #[.bool true, fnV 90, fnV 91]), (.int .i64 3, .agg #[.bool true, fnV 92, fnV 93]), (.int .i64 4, .agg #[.bool true, fnV 94, fnV 97]), (.int .i64 5, .agg #[.bool true, fnV 98, fnV 99]), (.int .i64 6, .agg #[.bool true, fnV 100, fnV 101]), (.int .i64 7, .agg #[.bool false, fnV 102, drV b7])]) (kx := .int .i64 8) (vx := .agg #[.bool false, fnV 103, drV b8]) rfl rfl kInt uRules MR.out rfl rfl rfl (keyInt (by unfold I64; decide)) (by simp) ?_
     rintro w2 h1 h2; have x2 := X1.out.then_only h2 (fun i (e : i = mb) => by rw [e]; exact LM.out); have h3 : MapR Tryz.prog 3 w2 mb [(.int .i64 1, .agg #[.bool true, fnV 88, fnV 89]), (.int .i64 2, .agg #[.bool true, fnV 90, fnV 91]), (.int .i64 3, .agg #[.bool true, fnV 92, fnV 93]), (.int .i64 4, .agg #[.bool true, fnV 94, fnV 97]), (.int .i64 5, .agg #[.bool true, fnV 98, fnV 99]), (.int .i64 6, .agg #[.bool true, fnV 100, fnV 101]), (.int .i64 7, .agg #[.bool false, fnV 102, drV b7]), (.int .i64 8, .agg #[.bool false, fnV 103, drV b8])] := h1
     (try (have hn : b7 ≠ mb := N7.out
           replace B7 := Hd (B7.out.only h2 hn)
           clear hn))
     (try (have hn : b8 ≠ mb := N8.out
           replace B8 := Hd (B8.out.only h2 hn)
           clear hn))
     (try (have hn : b9 ≠ mb := N9.out
           replace B9 := Hd (B9.out.only h2 hn)
           clear hn))
     clear X1 MR h2 h1; have MR := Hd h3; have X1 := Hd x2
     clear h3 x2)
  | (refine wpList_insertR (t := 156) (l := [(.int .i64 1, .agg #[.bool true, fnV 88, fnV 89]), (.int .i64 2, .agg #[.bool true, fnV 90, fnV 91]), (.int .i64 3, .agg #[.bool true, fnV 92, fnV 93]), (.int .i64 4, .agg #[.bool true, fnV 94, fnV 97]), (.int .i64 5, .agg #[.bool true, fnV 98, fnV 99]), (.int .i64 6, .agg #[.bool true, fnV 100, fnV 101]), (.int .i64 7, .agg #[.bool false, fnV 102, drV b7]), (.int .i64 8, .agg #[.bool false, fnV 103, drV b8])]) (kx := .int .i64 9) (vx := .agg #[.bool false, fnV 104, drV b9]) rfl rfl kInt uRules MR.out rfl rfl rfl (keyInt (by unfold I64; decide)) (by simp) ?_
     rintro w2 h1 h2; have x2 := X1.out.then_only h2 (fun i (e : i = mb) => by rw [e]; exact LM.out); have h3 : MapR Tryz.prog 3 w2 mb [(.int .i64 1, .agg #[.bool true, fnV 88, fnV 89]), (.int .i64 2, .agg #[.bool true, fnV 90, fnV 91]), (.int .i64 3, .agg #[.bool true, fnV 92, fnV 93]), (.int .i64 4, .agg #[.bool true, fnV 94, fnV 97]), (.int .i64 5, .agg #[.bool true, fnV 98, fnV 99]), (.int .i64 6, .agg #[.bool true, fnV 100, fnV 101]), (.int .i64 7, .agg #[.bool false, fnV 102, drV b7]), (.int .i64 8, .agg #[.bool false, fnV 103, drV b8]), (.int .i64 9, .agg #[.bool false, fnV 104, drV b9])] := h1
     (try (have hn : b7 ≠ mb := N7.out
           replace B7 := Hd (B7.out.only h2 hn)
           clear hn))
     (try (have hn : b8 ≠ mb := N8.out
           replace B8 := Hd (B8.out.only h2 hn)
           clear hn))
     (try (have hn : b9 ≠ mb := N9.out
           replace B9 := Hd (B9.out.only h2 hn)
           clear hn))
     clear X1 MR h2 h1; have MR := Hd h3; have X1 := Hd x2
     clear h3 x2)
  | (refine wpList_insertR (t := 156) (l := [(.int .i64 1, .agg #[.bool true, fnV 88, fnV 89]), (.int .i64 2, .agg #[.bool true, fnV 90, fnV 91]), (.int .i64 3, .agg #[.bool true, fnV 92, fnV 93]), (.int .i64 4, .agg #[.bool true, fnV 94, fnV 97]), (.int .i64 5, .agg #[.bool true, fnV 98, fnV 99]), (.int .i64 6, .agg #[.bool true, fnV 100, fnV 101]), (.int .i64 7, .agg #[.bool false, fnV 102, drV b7]), (.int .i64 8, .agg #[.bool false, fnV 103, drV b8]), (.int .i64 9, .agg #[.bool false, fnV 104, drV b9])]) (kx := .int .i64 10) (vx := .agg #[.bool false, fnV 105, fnV 106]) rfl rfl kInt uRules MR.out rfl rfl rfl (keyInt (by unfold I64; decide)) (by simp) ?_
     rintro w2 h1 h2; have x2 := X1.out.then_only h2 (fun i (e : i = mb) => by rw [e]; exact LM.out); have h3 : MapR Tryz.prog 3 w2 mb [(.int .i64 1, .agg #[.bool true, fnV 88, fnV 89]), (.int .i64 2, .agg #[.bool true, fnV 90, fnV 91]), (.int .i64 3, .agg #[.bool true, fnV 92, fnV 93]), (.int .i64 4, .agg #[.bool true, fnV 94, fnV 97]), (.int .i64 5, .agg #[.bool true, fnV 98, fnV 99]), (.int .i64 6, .agg #[.bool true, fnV 100, fnV 101]), (.int .i64 7, .agg #[.bool false, fnV 102, drV b7]), (.int .i64 8, .agg #[.bool false, fnV 103, drV b8]), (.int .i64 9, .agg #[.bool false, fnV 104, drV b9]), (.int .i64 10, .agg #[.bool false, fnV 105, fnV 106])] := h1
     (try (have hn : b7 ≠ mb := N7.out
           replace B7 := Hd (B7.out.only h2 hn)
           clear hn))
     (try (have hn : b8 ≠ mb := N8.out
           replace B8 := Hd (B8.out.only h2 hn)
           clear hn))
     (try (have hn : b9 ≠ mb := N9.out
           replace B9 := Hd (B9.out.only h2 hn)
           clear hn))
     clear X1 MR h2 h1; have MR := Hd h3; have X1 := Hd x2
     clear h3 x2)
  | (refine wpList_insertR (t := 156) (l := [(.int .i64 1, .agg #[.bool true, fnV 88, fnV 89]), (.int .i64 2, .agg #[.bool true, fnV 90, fnV 91]), (.int .i64 3, .agg #[.bool true, fnV 92, fnV 93]), (.int .i64 4, .agg #[.bool true, fnV 94, fnV 97]), (.int .i64 5, .agg #[.bool true, fnV 98, fnV 99]), (.int .i64 6, .agg #[.bool true, fnV 100, fnV 101]), (.int .i64 7, .agg #[.bool false, fnV 102, drV b7]), (.int .i64 8, .agg #[.bool false, fnV 103, drV b8]), (.int .i64 9, .agg #[.bool false, fnV 104, drV b9]), (.int .i64 10, .agg #[.bool false, fnV 105, fnV 106])]) (kx := .int .i64 11) (vx := .agg #[.bool false, fnV 107, fnV 108]) rfl rfl kInt uRules MR.out rfl rfl rfl (keyInt (by unfold I64; decide)) (by simp) ?_
     rintro w2 h1 h2; have x2 := X1.out.then_only h2 (fun i (e : i = mb) => by rw [e]; exact LM.out); have h3 : MapR Tryz.prog 3 w2 mb [(.int .i64 1, .agg #[.bool true, fnV 88, fnV 89]), (.int .i64 2, .agg #[.bool true, fnV 90, fnV 91]), (.int .i64 3, .agg #[.bool true, fnV 92, fnV 93]), (.int .i64 4, .agg #[.bool true, fnV 94, fnV 97]), (.int .i64 5, .agg #[.bool true, fnV 98, fnV 99]), (.int .i64 6, .agg #[.bool true, fnV 100, fnV 101]), (.int .i64 7, .agg #[.bool false, fnV 102, drV b7]), (.int .i64 8, .agg #[.bool false, fnV 103, drV b8]), (.int .i64 9, .agg #[.bool false, fnV 104, drV b9]), (.int .i64 10, .agg #[.bool false, fnV 105, fnV 106]), (.int .i64 11, .agg #[.bool false, fnV 107, fnV 108])] := h1
     (try (have hn : b7 ≠ mb := N7.out
           replace B7 := Hd (B7.out.only h2 hn)
           clear hn))
     (try (have hn : b8 ≠ mb := N8.out
           replace B8 := Hd (B8.out.only h2 hn)
           clear hn))
     (try (have hn : b9 ≠ mb := N9.out
           replace B9 := Hd (B9.out.only h2 hn)
           clear hn))
     clear X1 MR h2 h1; have MR := Hd h3; have X1 := Hd x2
     clear h3 x2)
  | (refine wpList_insertR (t := 156) (l := [(.int .i64 1, .agg #[.bool true, fnV 88, fnV 89]), (.int .i64 2, .agg #[.bool true, fnV 90, fnV 91]), (.int .i64 3, .agg #[.bool true, fnV 92, fnV 93]), (.int .i64 4, .agg #[.bool true, fnV 94, fnV 97]), (.int .i64 5, .agg #[.bool true, fnV 98, fnV 99]), (.int .i64 6, .agg #[.bool true, fnV 100, fnV 101]), (.int .i64 7, .agg #[.bool false, fnV 102, drV b7]), (.int .i64 8, .agg #[.bool false, fnV 103, drV b8]), (.int .i64 9, .agg #[.bool false, fnV 104, drV b9]), (.int .i64 10, .agg #[.bool false, fnV 105, fnV 106]), (.int .i64 11, .agg #[.bool false, fnV 107, fnV 108])]) (kx := .int .i64 12) (vx := .agg #[.bool true, fnV 109, fnV 110]) rfl rfl kInt uRules MR.out rfl rfl rfl (keyInt (by unfold I64; decide)) (by simp) ?_
     rintro w2 h1 h2; have x2 := X1.out.then_only h2 (fun i (e : i = mb) => by rw [e]; exact LM.out); have h3 : MapR Tryz.prog 3 w2 mb [(.int .i64 1, .agg #[.bool true, fnV 88, fnV 89]), (.int .i64 2, .agg #[.bool true, fnV 90, fnV 91]), (.int .i64 3, .agg #[.bool true, fnV 92, fnV 93]), (.int .i64 4, .agg #[.bool true, fnV 94, fnV 97]), (.int .i64 5, .agg #[.bool true, fnV 98, fnV 99]), (.int .i64 6, .agg #[.bool true, fnV 100, fnV 101]), (.int .i64 7, .agg #[.bool false, fnV 102, drV b7]), (.int .i64 8, .agg #[.bool false, fnV 103, drV b8]), (.int .i64 9, .agg #[.bool false, fnV 104, drV b9]), (.int .i64 10, .agg #[.bool false, fnV 105, fnV 106]), (.int .i64 11, .agg #[.bool false, fnV 107, fnV 108]), (.int .i64 12, .agg #[.bool true, fnV 109, fnV 110])] := h1
     (try (have hn : b7 ≠ mb := N7.out
           replace B7 := Hd (B7.out.only h2 hn)
           clear hn))
     (try (have hn : b8 ≠ mb := N8.out
           replace B8 := Hd (B8.out.only h2 hn)
           clear hn))
     (try (have hn : b9 ≠ mb := N9.out
           replace B9 := Hd (B9.out.only h2 hn)
           clear hn))
     clear X1 MR h2 h1; have MR := Hd h3; have X1 := Hd x2
     clear h3 x2))
 go_ret; exact ⟨mb, b7, b8, b9, rfl, MR.out, B7.out, B8.out, B9.out, LM.out, L7.out, L8.out, L9.out, X1.out⟩
end Go.Proofs.YtojobdffnnibaaaGreat