/- against: false at a right state. -/
import Derived.Test.YtojobdffnnibaaaPlainGd
import Derived.Test.YtojobdffnnibaaaRLeaf2
namespace Go.Proofs.Ytojobdffnnibaaa
open Go.RowKit
set_option linter.unusedVariables false
set_option linter.unusedSimpArgs false

set_option maxRecDepth 100000 in
set_option maxHeartbeats 4000000 in
theorem against_good (p : PressD) (s : StD) (vu : Value) (w : World) (g : Good p s) (hu : UnIn w vu s.units) (hl : s.units.length ≤ 1000000) :
    Calls Try.prog 24 #[sV vu s] w fun e w' => e = .returned (.bool false) ∧ Ext w w' := by
  obtain ⟨a, c, rfl, Hu⟩ := hu.form
  clear hu
  unfold sV
  have hsh := g.shut
  have hwb := g.web
  have hsm : s.drive = 2 → 0 < (s.units.filter (·.pr)).length := fun hd => by
    obtain ⟨u, h1, h2⟩ := g.some_ hd
    rw [List.length_pos_iff_exists_mem]
    exact ⟨u, List.mem_filter.2 ⟨h1, h2⟩⟩
  obtain ⟨dr, hdr⟩ : ∃ d, s.drive = d := ⟨_, rfl⟩
  obtain ⟨fo, hfo⟩ : ∃ f, s.folder = f := ⟨_, rfl⟩
  rw [hdr] at hsh hwb hsm ⊢
  rw [hfo] at hsh ⊢
  obtain ⟨mv, hmv⟩ : ∃ b, (dr != 0) = b := ⟨_, rfl⟩
  have hmv2 : mv = true ↔ dr ≠ 0 := by rw [← hmv]; simp
  have SH := Lib.hid hsh
  have WB := Lib.hid hwb
  have SM := Lib.hid hsm
  have MV := Lib.hid hmv2
  have HL := Lib.hid hl
  clear hsh hwb hsm hmv2 hl
  clear g hdr hfo
  go_enter Try.func24, Try.ntmps24
  go_upto_region 4 with (
    with_reducible refine wpList_boxA (t := 36) (cs := #[.int .i64 dr, .bool fo, .slice a s.units.length c, .int .i64 s.fresh]) rfl rfl rfl ?_
    rintro xb w1 hx1 hx2 hx3
    have c1 := hx1.cell
    clear hx3
    have XB := Lib.hid hx1
    have X1 := Lib.hid hx2
    clear hx1 hx2)
  clear c1
  have hlen := HL.out
  go_loopw [5, 4] (fun t5 t4 wr => ∃ k : Nat, k ≤ s.units.length ∧ t5 = .int .i64 k ∧ t4 = .int .i64 ((s.units.take k).filter (·.pr)).length ∧ Hid (Ext w1 wr)) (fun t5 _ _ => s.units.length - (intOf t5).toNat)
  case atStart => exact ⟨0, by omega, rfl, rfl, Below.refl _ _⟩
  case round =>
    obtain ⟨k, hk, rfl, rfl, HX⟩ := hrel
    have c1 := (XB.out.ext HX.out).cell
    by_cases hlt : k < s.units.length
    · obtain ⟨b1, o1, rfl, hc⟩ := UnIn.cells (Hu.out.ext (X1.out.tr HX.out)) (by omega)
      obtain ⟨d0, d1, d2, d3, d4⟩ := hc k hlt
      have hsn := filt_snoc (·.pr) s.units k hlt
      have hfl := filt_le (·.pr) s.units k
      have hum := List.getElem_mem hlt
      have hs1 := fun h => (SH.out h).2 _ hum
      have hw1 := WB.out _ hum
      obtain ⟨u, hu⟩ : ∃ u, s.units[k] = u := ⟨_, rfl⟩
      rw [hu] at d0 d1 d2 d3 d4 hsn hs1 hw1
      obtain ⟨uo, ut, uc, up, ui⟩ := u
      dsimp only at *
      obtain ⟨N, hN⟩ : ∃ N, ((s.units.take k).filter (·.pr)).length = N := ⟨_, rfl⟩
      rw [hN] at hsn hfl ⊢
      have i1 : (0:Int) ≤ (k:Int) := by omega
      have i2 : (k:Int) < (s.units.length:Int) := by omega
      have hop : mv = true → uo = false := fun h => hs1 (MV.out.1 h)
      have hpr : up = true → ut = true ∧ mv = true := fun h => ⟨(hw1 h).1, MV.out.2 (hw1 h).2⟩
      have hnb : N ≤ 1000000 := by omega
      clear hu hc hum hs1 hw1 hN hfl
      have SN := Lib.hid hsn
      clear hsn
      go_upto_region 7 with (first
        | (with_reducible refine wpList_allocA (t := 50) rfl rfl Try.zeroValue50 ?_
           rintro zb w2 hx1 hx2 hx3
           have x2 := HX.out.tr hx2
           have lz : w1.heap.size ≤ zb := Nat.le_trans HX.out.size hx3
           clear d0 d1 d2 d3 d4 hx2 hx3 c1
           have ZB := Lib.hid hx1
           have X2 := Lib.hid x2
           have LZ := Lib.hid lz
           clear hx1 x2 lz)
        | (with_reducible refine wpList_storeK (ty := 50) (cells := #[.bool uo, .bool ut, .bool uc, .bool up, .int .i64 ui]) rfl rfl ZB.out ?_ ?_ ?_ ?_ ?_ ?_
           · rfl
           · rfl
           · kernel_rfl
           · rfl
           · simp [Value.oneCell']
           rintro w3 hb2 ho2
           have x2 := X2.out.then_only ho2 (fun b (e : b = zb) => by rw [e]; exact LZ.out)
           have cz := hb2.cell
           have c1 := (XB.out.ext x2).cell
           clear X2 ZB ho2
           have X2 := Lib.hid x2
           clear x2))
      cases up
      · clear hpr
        cases mv
        · cases uo
          all_goals
            go_wp2
            go_roundw
            case rel => exact ⟨k + 1, by omega, by go_num, by rw [SN.out]; first | rfl | (congr 1; omega) | (simp), X2⟩
            case measure => first | (simp [intOf]; done) | (simp [intOf]; omega)
        · obtain rfl := hop rfl
          clear hop
          go_wp2
          go_roundw
          case rel => exact ⟨k + 1, by omega, by go_num, by rw [SN.out]; first | rfl | (congr 1; omega) | (simp), X2⟩
          case measure => first | (simp [intOf]; done) | (simp [intOf]; omega)
      · obtain ⟨rfl, rfl⟩ := hpr rfl
        obtain rfl := hop rfl
        clear hop hpr
        go_wp2
        go_roundw
        case rel => exact ⟨k + 1, by omega, by go_num, by rw [SN.out]; first | rfl | (congr 1; omega) | (simp), X2⟩
        case measure => first | (simp [intOf]; done) | (simp [intOf]; omega)
    · have i2 : decide ((k:Int) < (s.units.length:Int)) = false := decide_eq_false (by omega)
      obtain rfl : k = s.units.length := by omega
      rw [List.take_length]
      obtain ⟨N, hN⟩ : ∃ N, (s.units.filter (·.pr)).length = N := ⟨_, rfl⟩
      have hsm := SM.out
      rw [hN] at hsm ⊢
      by_cases h2 : dr = 2
      · have hn := hsm h2
        have h0 : dr ≠ 0 := by omega
        obtain rfl := MV.out.2 h0
        obtain rfl := (SH.out h0).1
        have f2 : (dr == 2) = true := by simp [h2]
        have f3 : ((N:Int) == 0) = false := by simp; omega
        have f4 : (N == 0) = false := by simp; omega
        clear h2 h0 hn hsm hN
        go_wp2
        go_ret
        exact ⟨rfl, X1.out.tr HX.out⟩
      · have f2 : (dr == 2) = false := by simp [h2]
        cases mv
        · clear hsm h2 hN
          go_wp2
          go_ret
          exact ⟨rfl, X1.out.tr HX.out⟩
        · obtain rfl := (SH.out (MV.out.1 rfl)).1
          clear hsm h2 hN
          go_wp2
          go_ret
          exact ⟨rfl, X1.out.tr HX.out⟩
end Go.Proofs.Ytojobdffnnibaaa
