/- PressActs: the reference's allowed. -/
import Derived.Test.YtojobdffnnibaaaActsA
import Derived.Test.YtojobdffnnibaaaGuards0
namespace Go.Proofs.Ytojobdffnnibaaa
open Go.RowKit
set_option linter.unusedVariables false
set_option linter.unusedSimpArgs false

theorem allow_at {p : PressD} {s : StD} {i : Nat} {u : UnitD} {d : Int} {jk fo : Bool} {no np : Nat} (hu : s.units.getD i default = u) (hd : s.drive = d) (hj : p.jam.getD i false = jk) (hf : s.folder = fo) (hno : nOpen s = no) (hnp : nPr s = np) (k : Int) :
    allowD p s k i = (
      if k = 1 then d == 0 && !u.op
      else if k = 2 then u.op
      else if k = 3 then d == 1 && !u.th
      else if k = 4 then d == 1 && !u.th && !jk
      else if k = 5 then d != 0 && u.th && u.cl && !u.pr
      else if k = 6 then u.pr && (d != 2 || decide (1 < np))
      else if k = 7 then d != 1 && !decide (0 < no)
      else if k = 8 then d == 1 && decide (0 < np)
      else if k = 9 then d != 0 && !decide (0 < np)
      else if k = 10 then d == 0 && !fo
      else if k = 11 then fo
      else d == 0 && u.op && u.th) := by
  subst hu hd hj hf hno hnp
  unfold allowD
  rw [opened_n, anyPr_n]

set_option maxRecDepth 100000 in
set_option maxHeartbeats 4000000 in
theorem rAllowed_any {p : PressD} {s : StD} (g : Good p s) (k : Int) (i : Nat) (hk : 1 ≤ k ∧ k ≤ 12) (hi : i < s.units.length) (vj vu : Value) (w : World) (hj : Truths w vj p.jam) (hu : UnIn w vu s.units) :
    Calls Try.prog 75 #[pV vj p, sV vu s, .agg #[.int .i64 k, .int .i64 i]] w fun e w' => e = .returned (.bool (allowD p s k i)) ∧ Ext w w' := by
  have hl3 := g.small
  have hct := fun w1 (k : Ext w w1) => rCount_any s vu w1 (hu.ext k) (by omega)
  obtain ⟨a, c, rfl, Hu⟩ := hu.form
  obtain ⟨_, aj, cj, hvj, _, hcj⟩ := hj
  rw [List.length_map] at hvj hcj
  subst hvj
  obtain ⟨ua, uo, rfl, hcu⟩ := UnIn.cells Hu.out (by omega)
  obtain ⟨d0, d1, d2, d3, d4⟩ := hcu i hi
  obtain ⟨ja, jo, rfl, hcj2⟩ := hcj (by rw [← g.len]; omega)
  have hij : i < p.jam.length := by rw [← g.len]; exact hi
  have hgj : p.jam.getD i false = p.jam[i] := by rw [List.getD_eq_getElem?_getD, List.getElem?_eq_getElem hij]; rfl
  have j0 := hcj2 i (.bool p.jam[i]) (by simp [hij])
  have hgu : s.units.getD i default = s.units[i] := by rw [List.getD_eq_getElem?_getD, List.getElem?_eq_getElem hi]; rfl
  have hweb : s.drive = 0 → s.units[i].pr = false := fun h => by
    cases h2 : s.units[i].pr
    · rfl
    · exact absurd h (g.web _ (List.getElem_mem hi) h2).2
  obtain ⟨u, hux⟩ : ∃ u, s.units[i] = u := ⟨_, rfl⟩
  obtain ⟨jk, hjk⟩ : ∃ b, p.jam[i] = b := ⟨_, rfl⟩
  obtain ⟨d, hd⟩ : ∃ d, s.drive = d := ⟨_, rfl⟩
  obtain ⟨fo, hfo⟩ : ∃ f, s.folder = f := ⟨_, rfl⟩
  obtain ⟨fr, hfr⟩ : ∃ f, s.fresh = f := ⟨_, rfl⟩
  obtain ⟨n, hn⟩ : ∃ n, s.units.length = n := ⟨_, rfl⟩
  obtain ⟨m, hm⟩ : ∃ n, p.jam.length = n := ⟨_, rfl⟩
  obtain ⟨no, hno⟩ : ∃ n, nOpen s = n := ⟨_, rfl⟩
  obtain ⟨np, hnp⟩ : ∃ n, nPr s = n := ⟨_, rfl⟩
  rw [hux] at hgu d0 d1 d2 d3 d4 hweb
  rw [hjk] at hgj j0
  have hal := allow_at hgu hd hgj hfo hno hnp
  have hdr := g.dr
  unfold pV sV at *
  rw [hn] at hct hi hl3 ⊢
  rw [hm] at hij ⊢
  rw [hd] at hct hdr hweb ⊢
  rw [hfo, hfr] at hct ⊢
  rw [hno, hnp] at hct
  obtain ⟨B, hB⟩ : ∃ b, allowD p s k i = b := ⟨_, rfl⟩
  have hal2 := hal k
  rw [hB] at hal2 ⊢
  obtain ⟨uop, uth, ucl, upr, uin⟩ := u
  dsimp only at hal2 d0 d1 d2 d3 d4 hweb
  have i1 : (0:Int) ≤ (i:Int) := by omega
  have i2 : (i:Int) < (n:Int) := by omega
  have i3 : (i:Int) < (m:Int) := by omega
  have HCT := Lib.hid hct
  have HAL := Lib.hid hal2
  have HW := Lib.hid hweb
  have HK := Lib.hid hk
  have HDR := Lib.hid hdr
  have D0 := Lib.hid d0
  have D1 := Lib.hid d1
  have D2 := Lib.hid d2
  have D3 := Lib.hid d3
  have D4 := Lib.hid d4
  have J0 := Lib.hid j0
  clear hct hal2 hweb hk hdr d0 d1 d2 d3 d4 j0
  clear hal hB hcu hcj hcj2 hgu hgj hux hjk hd hfo hfr hn hm hno hnp g Hu
  clear hl3
  go_enter Try.func75, Try.ntmps75
  go_upto_region 1 with (first
    | (with_reducible refine wpList_boxA (t := 24) (cs := #[.slice (some ⟨ja, jo, none⟩) m cj, .int .i64 p.warm, .int .i64 p.tail, .int .i64 p.dirt]) rfl rfl rfl ?_
       rintro xb w1 hx1 hx2 hx3
       have PB := Lib.hid hx1
       have X1 := Lib.hid hx2
       clear hx1 hx2
       clear hx3)
    | (with_reducible refine wpList_boxA (t := 27) (cs := #[.int .i64 d, .bool fo, .slice (some ⟨ua, uo, none⟩) n c, .int .i64 fr]) rfl rfl rfl ?_
       rintro sb w2 hy1 hy2 hy3
       have pb2 := PB.out.ext hy2
       have x2 := X1.out.tr hy2
       clear PB X1
       have SB := Lib.hid hy1
       have PB := Lib.hid pb2
       have X1 := Lib.hid x2
       clear hy1 pb2 x2
       clear hy3 hy2)
    | (with_reducible refine wpList_boxA (t := 88) (cs := #[.int .i64 k, .int .i64 i]) rfl rfl rfl ?_
       rintro ab w3 hy1 hy2 hy3
       have pb2 := PB.out.ext hy2
       have sb2 := SB.out.ext hy2
       have x2 := X1.out.tr hy2
       clear PB X1 SB
       have c2 := sb2.cell
       have c3 := hy1.cell
       have d0 := x2.cellSome D0.out
       have d1 := x2.cellSome D1.out
       have d2 := x2.cellSome D2.out
       have d3 := x2.cellSome D3.out
       have d4 := x2.cellSome D4.out
       clear D0 D1 D2 D3 D4
       have SB := Lib.hid sb2
       have PB := Lib.hid pb2
       have X1 := Lib.hid x2
       have AB := Lib.hid hy1
       have D0 := Lib.hid d0
       have D1 := Lib.hid d1
       have D2 := Lib.hid d2
       have D3 := Lib.hid d3
       have D4 := Lib.hid d4
       clear sb2 pb2 x2 hy1 d0 d1 d2 d3 d4
       have d0 := D0.out
       have d1 := D1.out
       have d2 := D2.out
       have d3 := D3.out
       have d4 := D4.out
       clear hy3 hy2))
  go_upto_region 3 with (first
    | (with_reducible refine wpList_allocA (t := 98) rfl rfl Try.zeroValue98 ?_
       rintro ub w4 hy1 hy2 hy3
       have pb2 := PB.out.ext hy2
       have sb2 := SB.out.ext hy2
       have ab2 := AB.out.ext hy2
       have x2 := X1.out.tr hy2
       have d0 := hy2.cellSome D0.out
       have d1 := hy2.cellSome D1.out
       have d2 := hy2.cellSome D2.out
       have d3 := hy2.cellSome D3.out
       have d4 := hy2.cellSome D4.out
       have lz : w3.heap.size ≤ ub := hy3
       clear c2 c3 PB SB AB D0 D1 D2 D3 D4
       have c2 := sb2.cell
       have c3 := ab2.cell
       have UB := Lib.hid hy1
       have X2 := Lib.hid x2
       have PB := Lib.hid pb2
       have SB := Lib.hid sb2
       have AB := Lib.hid ab2
       have LZ := Lib.hid lz
       have Z := Lib.hid hy2
       clear hy1 x2 pb2 sb2 ab2 lz hy2
       clear hy3)
    | (with_reducible refine wpList_storeK (ty := 98) (cells := #[.bool uop, .bool uth, .bool ucl, .bool upr, .int .i64 uin]) rfl rfl UB.out ?_ ?_ ?_ ?_ ?_ ?_
       · rfl
       · rfl
       · kernel_rfl
       · rfl
       · simp [Value.oneCell']
       rintro w5 hb ho
       have x2 := X2.out.then_only ho (fun k (e : k = ub) => by rw [e]; exact Nat.le_trans X1.out.size LZ.out)
       have pb2 := PB.out.only ho (fun e => absurd (blk_ty PB.out (e ▸ UB.out)) (by decide))
       have sb2 := SB.out.only ho (fun e => absurd (blk_ty SB.out (e ▸ UB.out)) (by decide))
       have ab2 := AB.out.only ho (fun e => absurd (blk_ty AB.out (e ▸ UB.out)) (by decide))
       clear c2 c3 d0 d1 d2 d3 d4 PB SB AB UB X2 ho LZ Z X1
       have c2 := sb2.cell
       have X1 := Lib.hid x2
       have PB := Lib.hid pb2
       have SB := Lib.hid sb2
       have AB := Lib.hid ab2
       have UB := Lib.hid hb
       clear x2 pb2 sb2 ab2 hb)
    | (go_at_call 74
       refine (HCT.out _ X1.out).mono ?_
       rintro e w6 ⟨rfl, hx⟩
       have pb2 := PB.out.ext hx
       have sb2 := SB.out.ext hx
       have ab2 := AB.out.ext hx
       have ub2 := UB.out.ext hx
       have x2 := X1.out.tr hx
       have c1 := pb2.cell
       have j0 := x2.cellSome J0.out
       clear c2 PB SB AB UB X1 hx HCT J0
       have c2 := sb2.cell
       have c3 := ab2.cell
       have c4 := ub2.cell
       have X1 := Lib.hid x2
       clear x2))
  have hk2 : k = 1 ∨ k = 2 ∨ k = 3 ∨ k = 4 ∨ k = 5 ∨ k = 6 ∨ k = 7 ∨ k = 8 ∨ k = 9 ∨ k = 10 ∨ k = 11 ∨ k = 12 := by have := HK.out; omega
  have hd2 : d = 0 ∨ d = 1 ∨ d = 2 := by have := HDR.out; omega
  clear HK HDR
  rcases hk2 with rfl | rfl | rfl | rfl | rfl | rfl | rfl | rfl | rfl | rfl | rfl | rfl
  · rcases hd2 with rfl | rfl | rfl <;> cases uop <;> (
      go_wp2_with (fail)
      go_ret
      exact ⟨by rw [HAL.out]; rfl, X1.out⟩)
  · clear hd2
    go_wp2_with (fail)
    go_ret
    exact ⟨by rw [HAL.out]; rfl, X1.out⟩
  · rcases hd2 with rfl | rfl | rfl <;> cases uth <;> (
      go_wp2_with (fail)
      go_ret
      exact ⟨by rw [HAL.out]; rfl, X1.out⟩)
  · rcases hd2 with rfl | rfl | rfl <;> cases uth <;> cases jk <;> (
      go_wp2_with (fail)
      go_ret
      exact ⟨by rw [HAL.out]; rfl, X1.out⟩)
  · rcases hd2 with rfl | rfl | rfl <;> cases uth <;> cases ucl <;> cases upr <;> (
      go_wp2_with (fail)
      go_ret
      exact ⟨by rw [HAL.out]; rfl, X1.out⟩)
  · by_cases h : 1 < np
    · have f1 : (1:Int) < (np:Int) := by omega
      cases upr
      · rcases hd2 with rfl | rfl | rfl <;> (
          go_wp2_with (fail)
          go_ret
          exact ⟨by rw [HAL.out]; simp, X1.out⟩)
      · rcases hd2 with rfl | rfl | rfl
        · exact absurd (HW.out rfl) (by decide)
        · (
          go_wp2_with (fail)
          go_ret
          exact ⟨by rw [HAL.out]; simp [h], X1.out⟩)
        · (
          go_wp2_with (fail)
          go_ret
          exact ⟨by rw [HAL.out]; simp [h], X1.out⟩)
    · have f1 : decide ((1:Int) < (np:Int)) = false := decide_eq_false (by omega)
      cases upr
      · rcases hd2 with rfl | rfl | rfl <;> (
          go_wp2_with (fail)
          go_ret
          exact ⟨by rw [HAL.out]; simp, X1.out⟩)
      · rcases hd2 with rfl | rfl | rfl
        · exact absurd (HW.out rfl) (by decide)
        · (
          go_wp2_with (fail)
          go_ret
          exact ⟨by rw [HAL.out]; simp [h], X1.out⟩)
        · (
          go_wp2_with (fail)
          go_ret
          exact ⟨by rw [HAL.out]; simp [h], X1.out⟩)
  · by_cases h : no = 0
    · have f1 : ((no:Int) == 0) = true := by simp [h]
      have f2 : decide ((no:Int) = 0) = true := by simp [h]
      rcases hd2 with rfl | rfl | rfl <;> (
          go_wp2_with (fail)
          go_ret
          exact ⟨by rw [HAL.out]; simp [h], X1.out⟩)
    · have f1 : ((no:Int) == 0) = false := by simp; omega
      have f2 : decide ((no:Int) = 0) = false := by simp; omega
      have h' : 0 < no := by omega
      rcases hd2 with rfl | rfl | rfl <;> (
          go_wp2_with (fail)
          go_ret
          exact ⟨by rw [HAL.out]; simp [h'], X1.out⟩)
  · by_cases h : 0 < np
    · have f1 : (0:Int) < (np:Int) := by omega
      rcases hd2 with rfl | rfl | rfl <;> (
          go_wp2_with (fail)
          go_ret
          exact ⟨by rw [HAL.out]; simp [h], X1.out⟩)
    · have f1 : decide ((0:Int) < (np:Int)) = false := decide_eq_false (by omega)
      rcases hd2 with rfl | rfl | rfl <;> (
          go_wp2_with (fail)
          go_ret
          exact ⟨by rw [HAL.out]; simp [h], X1.out⟩)
  · by_cases h : np = 0
    · have f1 : ((np:Int) == 0) = true := by simp [h]
      have f2 : decide ((np:Int) = 0) = true := by simp [h]
      rcases hd2 with rfl | rfl | rfl <;> (
          go_wp2_with (fail)
          go_ret
          exact ⟨by rw [HAL.out]; simp [h], X1.out⟩)
    · have f1 : ((np:Int) == 0) = false := by simp; omega
      have f2 : decide ((np:Int) = 0) = false := by simp; omega
      have h' : 0 < np := by omega
      rcases hd2 with rfl | rfl | rfl <;> (
          go_wp2_with (fail)
          go_ret
          exact ⟨by rw [HAL.out]; simp [h'], X1.out⟩)
  · rcases hd2 with rfl | rfl | rfl <;> cases fo <;> (
      go_wp2_with (fail)
      go_ret
      exact ⟨by rw [HAL.out]; rfl, X1.out⟩)
  · clear hd2
    go_wp2_with (fail)
    go_ret
    exact ⟨by rw [HAL.out]; rfl, X1.out⟩
  · rcases hd2 with rfl | rfl | rfl <;> cases uop <;> cases uth <;> (
      go_wp2_with (fail)
      go_ret
      exact ⟨by rw [HAL.out]; rfl, X1.out⟩)
end Go.Proofs.Ytojobdffnnibaaa
