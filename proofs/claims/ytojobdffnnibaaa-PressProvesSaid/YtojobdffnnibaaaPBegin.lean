/- press.Begin. -/
import Derived.Test.YtojobdffnnibaaaPSit
import Derived.Test.YtojobdffnnibaaaPPrint0
namespace Go.Proofs.Ytojobdffnnibaaa
open Go.RowKit
set_option linter.unusedVariables false
set_option linter.unusedSimpArgs false

/-- make of a slice: so many zero elements. -/
theorem wpList_makeN {P : Program} {w : World} {ops : Array Oper} {rest : List Oper} {o : Oper} {a : Act} {Q : Exit → Act → World → Prop} {t e : TypeId} {z : Value} {size bytes : Nat} (T : SliceT P t e z size bytes) (hgd : o.guard = none) {x y : Operand} (ho : o.op = .makeSlice t x y) {n : Nat}
    (hx : a.eval x = .int .i64 n) (hy : a.eval y = .int .i64 n) (hN : bytes * n ≤ 140737488355328)
    (h : ∀ w1, w1.ownsRow w.heap.size e size (.slice (some ⟨w.heap.size, 0, none⟩) n n) n (madeCells z.cells (n * size)).toList → Ext w w1 → wpList P ops Q rest (a.put o.dst (.slice (some ⟨w.heap.size, 0, none⟩) n n)) w1) : wpList P ops Q (o :: rest) a w := by
  obtain ⟨i, hi, hp⟩ := Option.map_eq_some_iff.1 T.info
  simp only [Prod.mk.injEq] at hp
  obtain ⟨hz, hsz, hby⟩ := hp
  have hm : n ≤ maxLen := by
    have := Nat.le_mul_of_pos_left n T.byt
    unfold maxLen; omega
  exact wpList_make_full w hgd x y t ho w.heap.size e i z size T.ht hi hz hsz .i64 .i64 n n n hx hy rfl rfl (by rw [hby]; omega) hm (Nat.le_refl _) fun w1 h1 hg =>
    h w1 h1 (Ext.only (only_grown (v := .slice none 0 0) hg) (fun b hb => by cases hb))
/-- The beginning of a press. -/
def beginD (p : PressD) : StD := ⟨0, false, List.replicate p.jam.length ⟨false, false, false, false, 0⟩, 0⟩
def BeginPost (w : World) (p : PressD) (e : Ending) (w' : World) : Prop :=
  (pErr p ≠ 0 ∧ e = .returned (.tuple #[sZ, .int .i64 (pErr p)]) ∧ Ext w w') ∨
  (pErr p = 0 ∧ ∃ vu, e = .returned (.tuple #[sV vu (beginD p), .int .i64 0]) ∧ w'.ownsRow w.heap.size 50 5 vu p.jam.length (uL (beginD p).units) ∧ Ext w w')
theorem made_units (n : Nat) (h : 1 ≤ n ∧ n ≤ 3) : (madeCells #[.bool false, .bool false, .bool false, .bool false, .int .i64 0] (n * 5)).toList = uL (List.replicate n ⟨false, false, false, false, 0⟩) := by
  have : n = 1 ∨ n = 2 ∨ n = 3 := by omega
  clear h
  rcases this with rfl | rfl | rfl
  · have : (madeCells #[.bool false, .bool false, .bool false, .bool false, .int .i64 0] (1 * 5)).toList = uL (List.replicate 1 ⟨false, false, false, false, 0⟩) := by kernel_rfl
    exact this
  · have : (madeCells #[.bool false, .bool false, .bool false, .bool false, .int .i64 0] (2 * 5)).toList = uL (List.replicate 2 ⟨false, false, false, false, 0⟩) := by kernel_rfl
    exact this
  · have : (madeCells #[.bool false, .bool false, .bool false, .bool false, .int .i64 0] (3 * 5)).toList = uL (List.replicate 3 ⟨false, false, false, false, 0⟩) := by kernel_rfl
    exact this

set_option maxRecDepth 100000 in
set_option maxHeartbeats 4000000 in
theorem begin_any (p : PressD) (vj : Value) (w : World) (hj : Truths w vj p.jam) :
    Calls Try.prog 20 #[pV vj p] w (BeginPost w p) := by
  have hck := fun W (k : Ext w W) => check_any p vj W (Sl.ext hj k)
  obtain ⟨_, aj, cj, hvj, _⟩ := hj
  rw [List.length_map] at hvj
  subst hvj
  unfold pV at *
  obtain ⟨e1, he1⟩ : ∃ e, pErr p = e := ⟨_, rfl⟩
  rw [he1] at hck
  have HCK := Lib.hid hck
  have HE1 := Lib.hid he1
  clear hck he1
  go_enter Try.func20, Try.ntmps20
  go_upto_region 2 with (first
    | (with_reducible refine wpList_boxA (t := 32) (cs := #[.slice aj p.jam.length cj, .int .i64 p.warm, .int .i64 p.tail, .int .i64 p.dirt]) rfl rfl rfl ?_
       rintro xb w1 hx1 hx2 hx3
       have PB := Lib.hid hx1
       have X1 := Lib.hid hx2
       clear hx1 hx2
       clear hx3)
    | (with_reducible refine wpList_allocA (t := 36) rfl rfl Try.zeroValue36 ?_
       rintro rb w2 hy1 hy2 hy3
       have pb2 := PB.out.ext hy2
       have x2 := X1.out.tr hy2
       have l2 : w.heap.size ≤ rb := Nat.le_trans X1.out.size hy3
       have c2 := pb2.cell
       clear PB X1
       have RB := Lib.hid hy1
       have X1 := Lib.hid x2
       have LR := Lib.hid l2
       have PB := Lib.hid pb2
       clear hy1 x2 l2 pb2
       clear hy3 hy2)
    | (have hgd := HCK.out
       go_at_call 19
       refine (hgd _ X1.out).mono ?_
       rintro e w3 ⟨rfl, hx3⟩
       have x2 := X1.out.tr hx3
       have rb2 := RB.out.ext hx3
       have pb2 := PB.out.ext hx3
       clear c2 RB X1 PB hgd hx3 HCK
       have c2 := pb2.cell
       have X1 := Lib.hid x2
       have RB := Lib.hid rb2
       have PB := Lib.hid pb2
       clear x2 rb2 pb2))
  by_cases h1 : e1 = 0
  · subst h1
    have hlen := pErr_len HE1.out
    have hmk := made_units p.jam.length hlen
    have lx3 := X1.out.size
    have HMK := Lib.hid hmk
    have LX3 := Lib.hid lx3
    clear hmk lx3
    go_wp2_with (first
      | (refine wpList_makeN (n := p.jam.length) tUnits rfl rfl rfl rfl ?_ ?_
         · omega
         rintro w4 hown hx4
         have x2 := X1.out.tr hx4
         have rb2 := RB.out.ext hx4
         have OW := Lib.hid hown
         have X2 := Lib.hid x2
         have RB2 := Lib.hid rb2
         clear hown x2 rb2)
      | (with_reducible refine wpList_storeK (ty := 36) (cells := #[.int .i64 0, .bool false, .slice (some ⟨w3.heap.size, 0, none⟩) p.jam.length p.jam.length, .int .i64 0]) rfl rfl RB2.out ?_ ?_ ?_ ?_ ?_ ?_
         · rfl
         · rfl
         · kernel_rfl
         · rfl
         · simp [Value.oneCell']
         rintro w7 hb7 ho7
         have k0 := hb7.cell
         have x2 := X2.out.then_only ho7 (fun k (e : k = rb) => by rw [e]; exact LR.out)
         have hlr := RB.out.lt
         have how := owns_only OW.out ho7 (fun b hb (e : b = rb) => Nat.ne_of_lt hlr ((Option.some.inj hb).trans e).symm)
         clear X2 RB2 OW ho7 hb7
         have X1 := Lib.hid x2
         have OW := Lib.hid how
         clear x2 how))
    refine bodyPost_ret (v := .tuple #[sV (.slice (some ⟨w3.heap.size, 0, none⟩) p.jam.length p.jam.length) (beginD p), .int .i64 0]) (by simp [results, Try.results20, go_sem, k0, sV, beginD]) rfl ?_
    exact .inr ⟨HE1.out, _, rfl, owns_weak (by unfold beginD; rw [← HMK.out]; exact OW.out) LX3.out, X1.out⟩
  · have f1 : (e1 != 0) = true := by simp [h1]
    have h1' := h1
    have H1 := Lib.hid h1
    clear h1
    go_wp2_with (
         with_reducible refine wpList_storeK (ty := 36) (cells := #[.int .i64 0, .bool false, .slice none 0 0, .int .i64 0]) rfl rfl RB.out ?_ ?_ ?_ ?_ ?_ ?_
         · rfl
         · rfl
         · kernel_rfl
         · rfl
         · simp [Value.oneCell']
         rintro w7 hb7 ho7
         have k0 := hb7.cell
         have x2 := X1.out.then_only ho7 (fun k (e : k = rb) => by rw [e]; exact LR.out)
         clear X1 RB ho7 hb7
         have X1 := Lib.hid x2
         clear x2)
    refine bodyPost_ret (v := .tuple #[sZ, .int .i64 e1]) (by simp [results, Try.results20, go_sem, k0, sZ]) rfl ?_
    exact .inl ⟨by rw [HE1.out]; exact h1', by rw [HE1.out], X1.out⟩
end Go.Proofs.Ytojobdffnnibaaa
