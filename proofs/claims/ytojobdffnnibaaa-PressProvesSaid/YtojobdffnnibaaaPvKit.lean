import Derived.Test.YtojobdffnnibaaaLFn
import Derived.Test.YtojobdffnnibaaaPFul
import Derived.Test.YtojobdffnnibaaaGuards0
import Derived.Test.YtojobdffnnibaaaRepPl
import Derived.Test.YtojobdffnnibaaaClKit
import Derived.Test.YtojobdffnnibaaaCodKit
import Derived.Test.YtojobdffnnibaaaPFind
import Derived.Test.YtojobdffnnibaaaPRefute
import Derived.Test.YtojobdffnnibaaaAwKit
import Derived.Deep.CutBlock
/- law07.goal: an own copy of a goal. -/
namespace Go.Proofs.Ytojobdffnnibaaa
open Go.RowKit
set_option linter.unusedVariables false
set_option linter.unusedSimpArgs false

set_option maxRecDepth 100000 in
set_option maxHeartbeats 2000000 in
theorem goal_any (g : GoalD) (vg : Value) (w : World) (hg : Truths w vg g.pressed) (hl : g.pressed.length ≤ 140737488355328) :
    Calls Try.prog 39 #[gV vg g] w fun e w' => ∃ v, e = .returned (gV v g) ∧ Ext w w' ∧ w'.ownsRow w.heap.size 4 1 v g.pressed.length (g.pressed.map .bool) := by
  have hct := fun w1 (k : Ext w w1) => copyTruths_any g.pressed vg w1 (Sl.ext hg k) hl
  obtain ⟨_, aj, cj, rfl, _⟩ := hg
  rw [List.length_map] at *
  unfold gV
  have HCT := Lib.hid hct
  clear hct
  go_enter Try.func39, Try.ntmps39
  go_upto_region 1 with (first
    | (with_reducible refine wpList_boxA (t := 30) (cs := #[.int .i64 g.drive, .slice aj g.pressed.length cj]) rfl rfl rfl ?_
       rintro xb w1 hx1 hx2 hx3
       have XB := Lib.hid hx1
       have X1 := Lib.hid hx2
       clear hx1 hx2
       clear hx3)
    | (with_reducible refine wpList_allocA (t := 69) rfl rfl Try.zeroValue69 ?_
       rintro rb w2 hy1 hy2 hy3
       have x2 := X1.out.tr hy2
       have xb2 := XB.out.ext hy2
       have l2 : w.heap.size ≤ rb := Nat.le_trans X1.out.size hy3
       clear XB X1
       have XB := Lib.hid xb2
       have X1 := Lib.hid x2
       have RB := Lib.hid hy1
       have LR := Lib.hid l2
       clear xb2 x2 hy1 l2
       clear hy3 hy2))
  have hxd : Ext w2 w2.drew := (Below.refl _ w2).drew
  have xb2 := XB.out.ext hxd
  have rb2 := RB.out.ext hxd
  have x2 := X1.out.tr hxd
  clear XB RB X1
  refine wp_region_K (fun wx => ∀ i, wx.cell? ⟨xb, i, none⟩ = (#[.int .i64 g.drive, .slice aj g.pressed.length cj] : Array Value)[i]?) 6 (by kernel_rfl) xb2.cell (fun hHeld => ?_)
  generalize w2.drew = wA at *
  have XB := Lib.hid xb2
  have RB := Lib.hid rb2
  have X1 := Lib.hid x2
  clear xb2 rb2 x2
  clear hxd
  refine wpAnyK_takeL (i := 0) (v := ?_) rfl (by kernel_rfl) (by kernel_rfl) (by kernel_rfl) (by kernel_rfl) (fun _ _ _ h => h) (Or.inl ⟨by rfl, ?_⟩) hHeld ?_
  rotate_left
  · intro w hSw; (try dsimp only at hSw); go_simp; (try with_reducible rfl)
  try simp only [Act.put, List.setIfInBounds_toArray, List.set_cons_zero, List.set_cons_succ]
  refine wpAnyK_takeL (i := 1) (v := ?_) rfl (by kernel_rfl) (by kernel_rfl) (by kernel_rfl) (by kernel_rfl) (fun _ _ _ h => h) (Or.inl ⟨by rfl, ?_⟩) hHeld ?_
  rotate_left
  · intro w hSw; (try dsimp only at hSw); go_simp; (try with_reducible rfl)
  try simp only [Act.put, List.setIfInBounds_toArray, List.set_cons_zero, List.set_cons_succ]
  refine wpAnyK_takeL (i := 2) (v := ?_) rfl (by kernel_rfl) (by kernel_rfl) (by kernel_rfl) (by kernel_rfl) (fun _ _ _ h => h) (Or.inl ⟨by rfl, ?_⟩) hHeld ?_
  rotate_left
  · intro w hSw; (try dsimp only at hSw); go_simp; (try with_reducible rfl)
  try simp only [Act.put, List.setIfInBounds_toArray, List.set_cons_zero, List.set_cons_succ]
  refine wpAnyK_takeL (i := 3) (v := ?_) rfl (by kernel_rfl) (by kernel_rfl) (by kernel_rfl) (by kernel_rfl) (fun _ _ _ h => h) (Or.inl ⟨by rfl, ?_⟩) hHeld ?_
  rotate_left
  · intro w hSw; (try dsimp only at hSw); go_simp; (try with_reducible rfl)
  try simp only [Act.put, List.setIfInBounds_toArray, List.set_cons_zero, List.set_cons_succ]
  refine wpAnyK_ready (rs := [4]) (by kernel_rfl) (by simp) ?_
  refine AllReadyK.consL (i := 4) rfl (fun K hK => ?_) ?_
  · refine step_call (vs := #[.slice aj g.pressed.length cj]) rfl rfl rfl Try.func42 (by kernel_rfl) (by kernel_rfl) (HCT.out _ X1.out) ?_
    rintro e wy ⟨v, rfl, hx, ho⟩
    refine ⟨_, rfl, ?_⟩
    obtain ⟨a5, c5, rfl⟩ := row_form ho
    have xb2 := XB.out.ext hx
    have rb2 := RB.out.ext hx
    have x2 := X1.out.tr hx
    have ho2 := owns_weak ho X1.out.size
    have hnb : ∀ b, (Value.slice a5 g.pressed.length c5).ownBlock = some b → b ≠ rb := fun b hb e => by
      have h1 := (ho.lt b hb).1
      have h2 := RB.out.lt
      omega
    clear XB RB X1 hx ho
    have XB := Lib.hid xb2
    have RB := Lib.hid rb2
    have X1 := Lib.hid x2
    have HO := Lib.hid ho2
    have HNB := Lib.hid hnb
    clear xb2 rb2 x2 ho2 hnb
    refine hK.out _ _ (fun _ => XB.out.cell) (fun hHeld2 => ?_)
    clear hK K
    try clear hHeld
    have hHeld := hHeld2 (by decide)
    clear hHeld2
    try simp only [Act.put, List.setIfInBounds_toArray, List.set_cons_zero, List.set_cons_succ]
    refine wpAnyK_takeL (i := 5) (v := ?_) rfl (by kernel_rfl) (by kernel_rfl) (by kernel_rfl) (by kernel_rfl) (fun _ _ _ h => h) (Or.inl ⟨by rfl, ?_⟩) hHeld ?_
    rotate_left
    · intro w hSw; (try dsimp only at hSw); go_simp; (try with_reducible rfl)
    try simp only [Act.put, List.setIfInBounds_toArray, List.set_cons_zero, List.set_cons_succ]
    refine wpAnyK_ready (rs := [6]) (by kernel_rfl) (by simp) ?_
    refine AllReadyK.consL (i := 6) rfl (fun K hK => ?_) ?_
    · refine step_storeK (cells := #[.int .i64 g.drive, .slice a5 g.pressed.length c5]) rfl rfl RB.out rfl rfl (by kernel_rfl) rfl (by simp [Value.oneCell']) ?_
      intro wz hb ho
      have k0 := hb.cell
      have x2 := X1.out.then_only ho (fun k (e : k = rb) => by rw [e]; exact LR.out)
      have ho2 := owns_only HO.out ho HNB.out
      clear X1 HO hb ho
      have X1 := Lib.hid x2
      have HO := Lib.hid ho2
      clear x2 ho2
      refine hK.out _ _ (fun h => absurd h (by decide)) (fun hHeld2 => ?_)
      clear hK K hHeld2
      try clear hHeld
      try simp only [Act.put, List.setIfInBounds_toArray, List.set_cons_zero, List.set_cons_succ]
      refine wpAnyK_done (by kernel_rfl) ?_ _
      go_wp2
      refine bodyPost_ret (v := gV (.slice a5 g.pressed.length c5) g) (by simp [results, Try.results39, go_sem, k0, gV]) rfl ?_
      exact ⟨_, rfl, X1.out, HO.out⟩
    · exact AllReadyK.nil
  · exact AllReadyK.nil
end Go.Proofs.Ytojobdffnnibaaa

/- PressProves: what a round leads to, and what is found behind the rounds. -/
namespace Go.Proofs.Ytojobdffnnibaaa
open Go.RowKit
set_option linter.unusedVariables false
set_option linter.unusedSimpArgs false

/-- A state of the rounds: right, and what is Pressed is Clean. -/
def GoodC (p : PressD) (s : StD) : Prop := Good p s ∧ PrCl s
theorem beginc {p : PressD} (h : pErr p = 0) : GoodC p (beginD p) := by
  refine ⟨begin_good h, ?_⟩
  intro u hu
  unfold beginD at hu
  simp only [List.mem_map, List.mem_replicate] at hu
  simp_all
/-- An action of a round; the thirteenth kind is none, and its answer is not looked at. -/
theorem pv_do {p : PressD} {s : StD} (g : GoodC p s) (k : Int) (i : Nat) (hk : 1 ≤ k ∧ k ≤ 13) (hi : i < s.units.length) (hu : 7 ≤ k ∧ k ≤ 11 → i = 0) (vj vu : Value) (w : World) (hj : Truths w vj p.jam) (ho : OwU w vu s) :
    Calls Try.prog 22 #[pV vj p, sV vu s, .agg #[.int .i64 k, .int .i64 i]] w fun e w' => ∃ t er v, e = .returned (.tuple #[sV v t, .int .i64 er]) ∧ (er = 0 → GoodC p t) ∧ OwU w' v t ∧ Ext w w' := by
  obtain ⟨g, hc⟩ := g
  have hs := (good_iff p s).2 g
  have hde : doErr p s k i = actErr p s k i := by unfold doErr; rw [if_neg (by rw [hs]; simp)]
  refine (do_any p s k i vj vu w hj (ho.un (by have := g.small; omega)) (by have := g.small; omega) (by unfold I64; omega)).mono fun e w' hp => ?_
  obtain ⟨v, he, hown, hx⟩ := hp
  refine ⟨_, _, v, he, fun h0 => ?_, hown, hx⟩
  unfold doS
  rw [if_pos h0]
  have h1 : actErr p s k i = 0 := hde ▸ h0
  have h2 := act_prcl hc h1
  rw [(act_ok' h1).2] at h2
  exact ⟨act_good g h1, h2⟩
theorem pv_break {p : PressD} {s : StD} (g : GoodC p s) (i : Nat) (hi : i < s.units.length) (vj vu : Value) (w : World) (hj : Truths w vj p.jam) (ho : OwU w vu s) :
    Calls Try.prog 21 #[pV vj p, sV vu s, .int .i64 i] w fun e w' => ∃ t lo er v, e = .returned (.tuple #[sV v t, .int .i64 lo, .int .i64 er]) ∧ (er = 0 → GoodC p t) ∧ OwU w' v t ∧ Ext w w' := by
  obtain ⟨g, hc⟩ := g
  refine (break_any p s i vj vu w hj (ho.un (by have := g.small; omega)) (by have := g.small; omega) (by have := g.small; unfold I64; omega)).mono fun e w' hp => ?_
  rcases hp with ⟨h0, he, hx⟩ | ⟨h0, v, he, hown, hx⟩
  · exact ⟨zD, 0, _, .slice none 0 0, he, fun h => absurd h h0, OwU.nil _, hx⟩
  · refine ⟨_, _, 0, v, he, fun _ => ⟨break_good g h0, brk_prcl _ _⟩, ?_, hx⟩
    have hl : (brD s (i:Int).toNat).units.length = s.units.length := by simp [brD]
    unfold OwU
    rw [hl]
    exact owns_weak hown (Nat.zero_le _)
theorem pv_code {p : PressD} {s : StD} (g : GoodC p s) (vj vu : Value) (w : World) (hj : Truths w vj p.jam) (ho : OwU w vu s) :
    Calls Try.prog 31 #[pV vj p, sV vu s] w fun e w' => e = .returned (.tuple #[.int .i64 (codeD s), .int .i64 0]) ∧ Ext w w' := by
  have hs := (good_iff p s).2 g.1
  have := code_any p s vj vu w hj (ho.un (by have := g.1.small; omega)) (by have := g.1.small; omega)
  unfold coD at this
  rw [if_pos hs, hs] at this
  exact this
theorem pv_closed {p : PressD} {s : StD} (g : GoodC p s) (vj vu : Value) (w : World) (hj : Truths w vj p.jam) (ho : OwU w vu s) :
    Calls Try.prog 40 #[pV vj p, sV vu s] w fun e w' => ∃ v, e = .returned (.tuple #[v, .int .i64 0]) ∧ w'.ownsRow w.heap.size 3 1 v (codesS p s).length ((codesS p s).map (Value.int .i64)) ∧ Ext w w' := by
  have hs := (good_iff p s).2 g.1
  refine (closed_any p s vj vu w hj (ho.un (by have := g.1.small; omega)) (by have := g.1.small; omega)).mono fun e w' h => ?_
  exact (h.resolve_left fun h => h.1 hs).2
/-- The codes are numbers of 64 bits, and not many. -/
theorem codes_small {p : PressD} {s : StD} (g : GoodC p s) : (codesS p s).length ≤ 24576 ∧ ∀ c ∈ codesS p s, I64 c := by
  have hsm := g.1.small
  have F := closed_all (p := p) g.1.dr hsm.1
  refine ⟨by rw [(codesS_perm p s).length_eq]; exact F.len hsm.1, fun c hc => ?_⟩
  have hc2 := (codesS_perm p s).mem_iff.1 hc
  unfold codesD at hc2
  rw [List.mem_map] at hc2
  obtain ⟨x, hx, rfl⟩ := hc2
  obtain ⟨m, hm, _, _, hlt⟩ := dec_code (F.fit x hx) hsm.1
  rw [hm]; unfold I64; omega
/-- A goal's own copy. -/
theorem pv_goal (g : GoalD) (vg : Value) (w : World) (hg : Truths w vg g.pressed) (hl : g.pressed.length ≤ 3) :
    Calls Try.prog 39 #[gV vg g] w fun e w' => ∃ a c, e = .returned (gV (.slice a g.pressed.length c) g) ∧ w'.ownsRow 0 4 1 (.slice a g.pressed.length c) g.pressed.length (g.pressed.map .bool) ∧ Ext w w' := by
  refine (goal_any g vg w hg (by omega)).mono fun e w' ⟨v, he, hx, ho⟩ => ?_
  obtain ⟨a, c, rfl⟩ := row_form ho
  exact ⟨a, c, he, owns_weak ho (Nat.zero_le _), hx⟩
/-- What Find answers, and its beginnings. -/
theorem pv_find {p : PressD} {s : StD} (g : GoodC p s) (gl : GoalD) (hl : (findL p s gl).length ≤ 26) (vj vu vg : Value) (w : World) (hj : Truths w vj p.jam) (ho : OwU w vu s) (hg : Truths w vg gl.pressed) :
    Calls Try.prog 25 #[pV vj p, sV vu s, gV vg gl] w fun e w' => ∃ a c, e = .returned (.tuple #[.slice a (findL p s gl).length c, .int .i64 (fiErr p s gl)]) ∧ (findL p s gl).length ≤ c ∧ (∀ n, n ≤ (findL p s gl).length → AcIn w' (.slice a n c) ((findL p s gl).take n)) ∧ Ext w w' := by
  refine (find_any p s gl vj vu vg w hj (ho.un (by have := g.1.small; omega)) hg (by have := g.1.small; omega)).mono fun e w' ⟨va, he, hown, hx⟩ => ?_
  obtain ⟨L, hL⟩ : ∃ L, findL p s gl = L := ⟨_, rfl⟩
  rw [hL] at hown hl ⊢
  rcases Nat.eq_zero_or_pos L.length with h0 | h0
  · have hnil : L = [] := List.length_eq_zero_iff.1 h0
    subst hnil
    obtain ⟨a, c, rfl⟩ := row_form hown
    refine ⟨a, c, he, Nat.zero_le _, fun n hn => ?_, hx⟩
    have : n = 0 := by simpa using hn
    subst this
    exact ⟨by simp, a, c, rfl, fun h => absurd h (by simp)⟩
  · obtain ⟨b, c, rfl, hcap, hcell⟩ : ∃ b c, va = .slice (some ⟨b, 0, none⟩) L.length c ∧ L.length ≤ c ∧ ∀ i v, (acL L)[i]? = some v → w'.cell? ⟨b, i, none⟩ = some v := by
      obtain ⟨b, c, hv, hc⟩ := owns_pos hown h0
      subst hv
      have hcap : L.length ≤ c := by
        rcases hown.2 with ⟨hv, h⟩ | ⟨g, cap, cur, hv, hg, hgb, hrest⟩
        · cases hv
        · cases hv
          omega
      exact ⟨b, c, rfl, hcap, hc⟩
    refine ⟨_, c, he, hcap, fun n hn => ?_, hx⟩
    have hlt : (L.take n).length = n := by rw [List.length_take]; omega
    refine ⟨by omega, _, c, by rw [hlt], fun hp => ⟨b, 0, rfl, fun i hi => ?_⟩⟩
    rw [hlt] at hi hp
    have hg1 : (L.take n)[i] = L[i] := List.getElem_take
    rw [hg1]
    have e0 := acL_get L i 0 (by omega) (by omega)
    have e1 := acL_get L i 1 (by omega) (by omega)
    rw [Nat.add_zero] at e0
    rw [Nat.zero_add]
    exact ⟨hcell _ _ (by rw [e0]; rfl), hcell _ _ (by rw [e1]; rfl)⟩
end Go.Proofs.Ytojobdffnnibaaa

/- PressProves: the walk. -/
namespace Go.Proofs.Ytojobdffnnibaaa
open Go.RowKit
set_option linter.unusedVariables false
set_option linter.unusedSimpArgs false

set_option maxRecDepth 100000 in
set_option maxHeartbeats 4000000 in
theorem proves_true (p : PressD) (xs : List Int) (g : GoalD) (vj vn vg : Value) (w : World) (hj : Truths w vj p.jam) (hjl : p.jam.length ≤ 140737488355328) (hn : Ints w vn xs) (hb : ∀ x ∈ xs, I64 x) (hg : Truths w vg g.pressed) :
    Calls Try.prog 8 #[pV vj p, vn, gV vg g] w fun e w' => e = .returned (.bool true) ∧ Ext w w' := by
  have hown := fun W (k : Ext w W) => own_any p vj W (Sl.ext hj k) hjl
  obtain ⟨_, aj, cj, hvj, _⟩ := hj
  rw [List.length_map] at hvj
  subst hvj
  have hn0 := hn
  obtain ⟨hnl, an, cn, hvn, _, hcn⟩ := hn
  rw [List.length_map] at hvn hcn hnl
  subst hvn
  obtain ⟨hgl, ag, cg, hvg, _⟩ := id hg
  rw [List.length_map] at hvg hgl
  subst hvg
  obtain ⟨nj, hnj⟩ : ∃ m, p.jam.length = m := ⟨_, rfl⟩
  obtain ⟨nx, hnx⟩ : ∃ m, xs.length = m := ⟨_, rfl⟩
  obtain ⟨ng, hng⟩ : ∃ m, g.pressed.length = m := ⟨_, rfl⟩
  rw [hnj] at hjl ⊢
  rw [hnx] at hnl hcn ⊢
  rw [hng] at hgl hg ⊢
  unfold pV at hown
  unfold pV gV
  rw [hnj] at hown
  have HOWN := Lib.hid hown
  have HB := Lib.hid hb
  have HNJ := Lib.hid hnj
  have HNX := Lib.hid hnx
  have HCN := Lib.hid hcn
  have HNG := Lib.hid hng
  have HGT := Lib.hid hg
  clear hown hb hnj hnx hcn hng hg
  clear hn0
  go_enter Try.func8, Try.ntmps8
  go_upto_region 2 with (first
    | (with_reducible refine wpList_boxA (t := 24) (cs := #[.slice aj nj cj, .int .i64 p.warm, .int .i64 p.tail, .int .i64 p.dirt]) rfl rfl rfl ?_
       rintro xb w1 hx1 hx2 hx3
       clear hx3
       have XB := Lib.hid hx1
       have X := Lib.hid hx2
       clear hx1 hx2)
    | (with_reducible refine wpList_boxA (t := 30) (cs := #[.int .i64 g.drive, .slice ag ng cg]) rfl rfl rfl ?_
       rintro gb w1g hx1 hx2 hx3
       have xb2 := XB.out.ext hx2
       have x2 := X.out.tr hx2
       have c1 := xb2.cell
       clear hx3 XB X hx2
       have XB := Lib.hid xb2
       have X := Lib.hid x2
       have GB := Lib.hid hx1
       clear xb2 x2 hx1)
    | (have hgd := HOWN.out
       go_at_call 11
       refine (hgd _ X.out).mono ?_
       rintro e w2 ⟨v1, rfl, hx, ho1⟩
       obtain ⟨va, ca, rfl⟩ := row_form ho1
       clear hgd HOWN c1
       have xb2 := XB.out.ext hx
       have gb2 := GB.out.ext hx
       have x2 := X.out.tr hx
       clear XB X hx GB
       have XB := Lib.hid xb2
       have X := Lib.hid x2
       have OA := Lib.hid ho1
       have GB := Lib.hid gb2
       clear xb2 x2 ho1 gb2)
    | (with_reducible refine wpList_allocA (t := 32) rfl rfl Try.zeroValue32 ?_
       rintro pb w3 hx1 hx2 hx3
       have lz : w2.heap.size ≤ pb := hx3
       clear hx3
       have PB := Lib.hid hx1
       have Z := Lib.hid hx2
       have LZ := Lib.hid lz
       clear hx1 hx2 lz)
    | (with_reducible refine wpList_storeK (ty := 32) (cells := #[.slice va nj ca, .int .i64 p.warm, .int .i64 p.tail, .int .i64 p.dirt]) rfl rfl PB.out ?_ ?_ ?_ ?_ ?_ ?_
       · rfl
       · rfl
       · kernel_rfl
       · rfl
       · simp [Value.oneCell']
       rintro w4 hb4 ho4
       have hx := Z.out.then_only ho4 (fun k (e : k = pb) => by rw [e]; exact LZ.out)
       have xb2 := XB.out.ext hx
       have gb2 := GB.out.ext hx
       have x2 := X.out.tr hx
       have oa2 := owns_ext OA.out hx
       have c1 := xb2.cell
       have c2 := hb4.cell
       have c5 := gb2.cell
       clear XB X OA Z LZ PB GB ho4 hx
       have XB := Lib.hid xb2
       have X := Lib.hid x2
       have OA := Lib.hid oa2
       have PB := Lib.hid hb4
       have GB := Lib.hid gb2
       clear xb2 x2 oa2 hb4 gb2))
  have htr : Truths w4 (.slice va nj ca) p.jam := Sl.of_owns OA.out
  have hck := fun W (k : Ext w4 W) => check_any p (.slice va nj ca) W (Sl.ext htr k)
  obtain ⟨e1, he1⟩ : ∃ e, pErr p = e := ⟨_, rfl⟩
  rw [he1] at hck
  have HCK := Lib.hid hck
  have HTR := Lib.hid htr
  have HE1 := Lib.hid he1
  clear hck htr he1
  by_cases h1 : e1 = 0
  · subst h1
    by_cases h2 : 100 < nx
    · have i1 : (100:Int) < (nx:Int) := by omega
      · go_wp2_with (first
          | (go_at_call 19
             refine (HCK.out _ (Below.refl _ _)).mono ?_
             rintro e w5 ⟨rfl, hx⟩
             clear c1 c2 c5
             have c1 := (XB.out.ext hx).cell
             have c5 := (GB.out.ext hx).cell
             have x2 := X.out.tr hx
             clear X hx HCK
             have X := Lib.hid x2
             clear x2)
          | (go_at_call 10
             refine (awake_any _).mono ?_
             rintro e w6 ⟨rfl, hx⟩
             have x2 := X.out.tr hx
             clear X hx
             have X := Lib.hid x2
             clear x2))
        go_ret
        exact ⟨rfl, X.out⟩
    have i1 : decide ((100:Int) < (nx:Int)) = false := decide_eq_false (by omega)
    have hl := pErr_len HE1.out
    rw [HNJ.out] at hl
    have i2 : decide ((3:Int) < (nj:Int)) = false := decide_eq_false (by omega)
    have i3 : ((nj:Int) == 0) = false := by simp; omega
    have i3' : decide ((nj:Int) = 0) = false := decide_eq_false (by omega)
    have hnx : nx ≤ 100 := by omega
    clear h2
    by_cases h3 : ng = nj
    · subst h3
      have j1 : ((ng:Int) != (ng:Int)) = false := by simp
      obtain ⟨gd, hgd⟩ : ∃ d, g.drive = d := ⟨_, rfl⟩
      rw [hgd] at GB c5
      by_cases h4 : gd < 0
      · · go_wp2_with (first
            | (go_at_call 19
               refine (HCK.out _ (Below.refl _ _)).mono ?_
               rintro e w5 ⟨rfl, hx⟩
               clear c1 c2 c5
               have c1 := (XB.out.ext hx).cell
               have c5 := (GB.out.ext hx).cell
               have x2 := X.out.tr hx
               clear X hx HCK
               have X := Lib.hid x2
               clear x2)
            | (go_at_call 10
               refine (awake_any _).mono ?_
               rintro e w6 ⟨rfl, hx⟩
               have x2 := X.out.tr hx
               clear X hx
               have X := Lib.hid x2
               clear x2))
          go_ret
          exact ⟨rfl, X.out⟩
      have j2 : decide (gd < 0) = false := decide_eq_false h4
      by_cases h5 : 2 < gd
      · · go_wp2_with (first
            | (go_at_call 19
               refine (HCK.out _ (Below.refl _ _)).mono ?_
               rintro e w5 ⟨rfl, hx⟩
               clear c1 c2 c5
               have c1 := (XB.out.ext hx).cell
               have c5 := (GB.out.ext hx).cell
               have x2 := X.out.tr hx
               clear X hx HCK
               have X := Lib.hid x2
               clear x2)
            | (go_at_call 10
               refine (awake_any _).mono ?_
               rintro e w6 ⟨rfl, hx⟩
               have x2 := X.out.tr hx
               clear X hx
               have X := Lib.hid x2
               clear x2))
          go_ret
          exact ⟨rfl, X.out⟩
      have j3 : decide (2 < gd) = false := decide_eq_false h5
      have HGD := Lib.hid hgd
      clear hgd
      go_upto_region 4 with (
        go_at_call 19
        refine (HCK.out _ (Below.refl _ _)).mono ?_
        rintro e w5 ⟨rfl, hx⟩
        have xb2 := XB.out.ext hx
        have pb2 := PB.out.ext hx
        have gb2 := GB.out.ext hx
        have x2 := X.out.tr hx
        have tr2 := Sl.ext HTR.out hx
        clear c1 c2 c5 XB PB X HTR hx HCK GB
        have c1 := xb2.cell
        have c2 := pb2.cell
        have c5 := gb2.cell
        have X := Lib.hid x2
        have XB := Lib.hid xb2
        have PB := Lib.hid pb2
        have HTR := Lib.hid tr2
        have GB := Lib.hid gb2
        clear x2 xb2 pb2 tr2 gb2)
      have hbg := fun W (k : Ext w5 W) => gd_begin (.slice va ng ca) W (Sl.ext HTR.out k) HE1.out
      have hbl : (beginD p).units.length = ng := by simp [beginD]; exact HNJ.out
      have hgB := beginc HE1.out
      obtain ⟨B0, hB0⟩ : ∃ B, beginD p = B := ⟨_, rfl⟩
      rw [hB0] at hbg hbl hgB
      unfold pV sV at hbg
      have hd2 : 0 ≤ gd ∧ gd ≤ 2 := by omega
      clear i2 i3 i3' hB0 j1 j2 j3 h4 h5 i1
      have HBG := Lib.hid hbg
      have HBL := Lib.hid hbl
      have HGB := Lib.hid hgB
      have HD2 := Lib.hid hd2
      clear hbg hbl hgB hd2
      go_upto_region 5 with (first
        | (go_at_call 20
           refine (HBG.out _ (Below.refl _ _)).mono ?_
           rintro e w6 ⟨v, rfl, hown, hx⟩
           obtain ⟨ab, cb, rfl⟩ := hown.form
           have xb2 := XB.out.ext hx
           have pb2 := PB.out.ext hx
           have gb2 := GB.out.ext hx
           have x2 := X.out.tr hx
           have tr2 := Sl.ext HTR.out hx
           clear c1 c2 c5 XB PB X HTR hx HBG GB
           have X := Lib.hid x2
           have XB := Lib.hid xb2
           have PB := Lib.hid pb2
           have HTR := Lib.hid tr2
           have OW := Lib.hid hown
           have GB := Lib.hid gb2
           clear x2 xb2 pb2 tr2 hown gb2)
        | (with_reducible refine wpList_allocA (t := 36) rfl rfl Try.zeroValue36 ?_
           rintro sb w7 hx1 hx2 hx3
           have lz : w6.heap.size ≤ sb := hx3
           clear hx3
           have x6 := X.out
           have SB := Lib.hid hx1
           have Z := Lib.hid hx2
           have LZ := Lib.hid lz
           have X6 := Lib.hid x6
           clear hx1 hx2 lz x6)
        | (with_reducible refine wpList_storeK (ty := 36) (cells := #[.int .i64 B0.drive, .bool B0.folder, .slice ab B0.units.length cb, .int .i64 B0.fresh]) rfl rfl SB.out ?_ ?_ ?_ ?_ ?_ ?_
           · rfl
           · rfl
           · kernel_rfl
           · rfl
           · simp [Value.oneCell']
           rintro w8 hb8 ho8
           have hx := Z.out.then_only ho8 (fun k (e : k = sb) => by rw [e]; exact LZ.out)
           have xb2 := XB.out.ext hx
           have pb2 := PB.out.ext hx
           have gb2 := GB.out.ext hx
           have x2 := X.out.tr hx
           have tr2 := Sl.ext HTR.out hx
           have ow2 := OW.out.ext hx
           have c1 := xb2.cell
           have c2 := hb8.cell
           have xb6 := XB.out
           have pb6 := PB.out
           have tr6 := HTR.out
           have gb6 := GB.out
           clear XB PB X HTR OW Z SB ho8 GB
           have X := Lib.hid x2
           have XB6 := Lib.hid xb6
           have PB6 := Lib.hid pb6
           have TR6 := Lib.hid tr6
           have OW := Lib.hid ow2
           have SB := Lib.hid hb8
           have X68 := Lib.hid hx
           have GB6 := Lib.hid gb6
           clear x2 xb6 pb6 tr6 ow2 hb8 hx gb6))
      rw [HBL.out] at c2 SB
      go_upto_region 8 with (fail)
      clear c1 c2
      go_loopw [10] (fun t10 wr => ∃ (k : Nat) (t : StD) (vt : Value), k ≤ nx ∧ t10 = .int .i64 k ∧ Hid (GoodC p t) ∧ Hid (Blk wr sb #[.int .i64 t.drive, .bool t.folder, vt, .int .i64 t.fresh] 36) ∧ Hid (OwU wr vt t) ∧ Hid (Ext w6 wr)) (fun t10 _ => nx - (intOf t10).toNat)
      case atStart => exact ⟨0, B0, .slice ab ng cb, by omega, rfl, HGB, SB, by have := OW.out; rw [HBL.out] at this; exact this, X68⟩
      case round =>
        obtain ⟨k, t, vt, hk, rfl, GT, SB2, OT, X2⟩ := hrel
        obtain ⟨ta, tc, rfl⟩ := OT.out.form
        have htl : t.units.length = ng := by rw [GT.out.1.len]; exact HNJ.out
        rw [htl] at SB2 OT
        by_cases hlt : k < nx
        · obtain ⟨bn, on, rfl, hc⟩ := HCN.out (by omega)
          as_aux_lemma =>
            have hkx : k < xs.length := by rw [HNX.out]; exact hlt
            have d0 := X2.out.cellSome (X6.out.cellSome (hc k (.int .i64 xs[k]) (by simp [hkx])))
            have hxb := HB.out xs[k] (List.getElem_mem hkx)
            obtain ⟨x, hx⟩ : ∃ x, xs[k] = x := ⟨_, rfl⟩
            rw [hx] at d0 hxb
            have hp := pick_pos x 1000 (by omega)
            obtain ⟨m, hm⟩ : ∃ m : Nat, pick x 1000 = m := ⟨(pick x 1000).toNat, by omega⟩
            have hpk := fun W => pick_any x 1000 W hxb (by unfold I64; decide)
            rw [hm] at hpk hp
            have c1 := (XB6.out.ext X2.out).cell
            have c2 := (PB6.out.ext X2.out).cell
            have c3 := SB2.out.cell
            have i1 : (0:Int) ≤ (k:Int) := by omega
            have i2 : (k:Int) < (nx:Int) := by omega
            clear hc hx hm
            have HPK := Lib.hid hpk
            clear hpk
            go_upto_region 12 with (
              go_at_call 17
              refine (HPK.out _).mono ?_
              rintro e wz ⟨rfl, rfl⟩)
            obtain ⟨i, hi⟩ : ∃ i : Nat, (m:Int) / 13 % (ng:Int) = i := ⟨m / 13 % ng, by simp⟩
            have hij : i < ng := by
              have : (m:Int) / 13 % (ng:Int) < ng := Int.emod_lt_of_pos _ (by omega)
              omega
            rw [hi]
            obtain ⟨r, hr⟩ : ∃ r : Nat, m % 13 = r := ⟨_, rfl⟩
            have hr13 : r < 13 := by omega
            have hri : (m:Int) % 13 = (r:Int) := by omega
            have hbk := fun W (k : Ext wr W) => pv_break GT.out i (by rw [htl]; exact hij) (.slice va ng ca) (.slice ta ng tc) W (Sl.ext TR6.out (X2.out.tr k)) (OT.out.ext k)
            have hdo := fun (j : Nat) (hj : j < ng) (hj2 : 7 ≤ (r:Int) + 1 ∧ (r:Int) + 1 ≤ 11 → j = 0) W (k : Ext wr W) => pv_do GT.out ((r:Int) + 1) j (by omega) (by rw [htl]; exact hj) hj2 (.slice va ng ca) (.slice ta ng tc) W (Sl.ext TR6.out (X2.out.tr k)) (OT.out.ext k)
            unfold pV sV at hbk hdo
            have yr : Ext wr wr := Below.refl _ _
            clear d0 hi hr
            have HRI := Lib.hid hri
            have HBK := Lib.hid hbk
            have HDO := Lib.hid hdo
            have Y := Lib.hid yr
            clear hri hbk hdo yr
            by_cases h12 : r = 12
            · have f1 : ((m:Int) % 13 == 12) = true := by rw [HRI.out, h12]; rfl
              have f5 : decide ((m:Int) % 13 + 1 ≤ 11) = false := decide_eq_false (by rw [HRI.out]; omega)
              have f6 : 7 ≤ (m:Int) % 13 + 1 := by rw [HRI.out]; omega
              have hd := HDO.out i hij (fun h => absurd h.2 (by omega))
              rw [← HRI.out] at hd
              clear h12
              have HD := Lib.hid hd
              clear hd
              go_upto_region 18 with (first
                | (go_at_call 22
                   refine (HD.out _ Y.out).mono ?_
                   rintro e w11 ⟨t', er, v', rfl, hg, ho, hx⟩
                   obtain ⟨a', c', rfl⟩ := ho.form
                   clear c1 c2 c3
                   have c1 := (XB6.out.ext (X2.out.tr hx)).cell
                   have c2 := (PB6.out.ext (X2.out.tr hx)).cell
                   have c3 := (SB2.out.ext hx).cell
                   clear Y
                   have HG := Lib.hid hg
                   have OW11 := Lib.hid ho
                   have Y := Lib.hid hx
                   clear hg ho hx)
                | (with_reducible refine wpList_allocA (t := 36) rfl rfl Try.zeroValue36 ?_
                   rintro nb w12 hx1 hx2 hx3
                   have lz : wr.heap.size ≤ nb := Nat.le_trans Y.out.size hx3
                   have y2 := Y.out.tr hx2
                   have ow2 := OW11.out.ext hx2
                   clear hx2 hx3 Y OW11
                   have NB := Lib.hid hx1
                   have Y := Lib.hid y2
                   have LZ2 := Lib.hid lz
                   have OW11 := Lib.hid ow2
                   clear hx1 y2 lz ow2)
                | (with_reducible refine wpList_storeK (ty := 36) (cells := #[.int .i64 t'.drive, .bool t'.folder, .slice a' t'.units.length c', .int .i64 t'.fresh]) rfl rfl NB.out ?_ ?_ ?_ ?_ ?_ ?_
                   · rfl
                   · rfl
                   · kernel_rfl
                   · rfl
                   · simp [Value.oneCell']
                   rintro w13 hb ho
                   have y2 := Y.out.then_only ho (fun k (e : k = nb) => by rw [e]; exact LZ2.out)
                   have ow2 : OwU w13 (.slice a' t'.units.length c') t' := owns_only OW11.out ho (owns_ne' OW11.out NB.out (by decide))
                   clear ho Y OW11 c1 c2 c3 NB
                   have c1 := (XB6.out.ext (X2.out.tr y2)).cell
                   have c2 := (PB6.out.ext (X2.out.tr y2)).cell
                   have c3 := (SB2.out.ext y2).cell
                   have c4 := hb.cell
                   have NB := Lib.hid hb
                   have Y := Lib.hid y2
                   have OW11 := Lib.hid ow2
                   clear hb y2 ow2)
                | (with_reducible refine wpList_storeK (ty := 36) (cells := #[.int .i64 t'.drive, .bool t'.folder, .slice a' t'.units.length c', .int .i64 t'.fresh]) rfl rfl (SB2.out.ext Y.out) ?_ ?_ ?_ ?_ ?_ ?_
                   · rfl
                   · rfl
                   · kernel_rfl
                   · rfl
                   · simp [Value.oneCell']
                   rintro w16 hb ho
                   have hx7 := (X2.out.tr Y.out).then_only ho (fun k (e : k = sb) => by rw [e]; exact LZ.out)
                   have how : OwU w16 (.slice a' t'.units.length c') t' := owns_only OW11.out ho (owns_ne' OW11.out (SB2.out.ext Y.out) (by decide))
                   clear ho
                   have SB9 := Lib.hid hb
                   have X9 := Lib.hid hx7
                   have OW9 := Lib.hid how
                   clear hb hx7 how)
                | (go_at_call 21
                   refine (HBK.out _ Y.out).mono ?_
                   rintro e w14 ⟨t2, lo, er2, v2, rfl, hg, ho, hx⟩
                   obtain ⟨a2, c2', rfl⟩ := ho.form
                   have y2 := Y.out.tr hx
                   have nb2 := NB.out.ext hx
                   clear c1 c2 c3 c4 Y hx HG OW11 NB
                   have HG := Lib.hid hg
                   have OW11 := Lib.hid ho
                   have Y := Lib.hid y2
                   have NB := Lib.hid nb2
                   clear hg ho y2 nb2)
                | (with_reducible refine wpList_storeK (ty := 36) (cells := #[.int .i64 t2.drive, .bool t2.folder, .slice a2 t2.units.length c2', .int .i64 t2.fresh]) rfl rfl NB.out ?_ ?_ ?_ ?_ ?_ ?_
                   · rfl
                   · rfl
                   · kernel_rfl
                   · rfl
                   · simp [Value.oneCell']
                   rintro w15 hb ho
                   have y2 := Y.out.then_only ho (fun k (e : k = nb) => by rw [e]; exact LZ2.out)
                   have ow2 : OwU w15 (.slice a2 t2.units.length c2') t2 := owns_only OW11.out ho (owns_ne' OW11.out NB.out (by decide))
                   clear ho Y OW11 NB
                   have c3 := (SB2.out.ext y2).cell
                   have c4 := hb.cell
                   have NB := Lib.hid hb
                   have Y := Lib.hid y2
                   have OW11 := Lib.hid ow2
                   clear hb y2 ow2)
                | fail)
              obtain ⟨er, he2⟩ : ∃ e, e = er2 := ⟨_, rfl⟩
              obtain ⟨t', ht2⟩ : ∃ e, e = t2 := ⟨_, rfl⟩
              obtain ⟨a', ha2⟩ : ∃ e, e = a2 := ⟨_, rfl⟩
              obtain ⟨c', hc2⟩ : ∃ e, e = c2' := ⟨_, rfl⟩
              subst he2 ht2 ha2 hc2
              by_cases he : er = 0
              · subst he
                have hgt := HG.out rfl
                have HGT2 := Lib.hid hgt
                clear hgt
                go_wp2_with (first
                  | (go_at_call 22
                     refine (HD.out _ Y.out).mono ?_
                     rintro e w11 ⟨t', er, v', rfl, hg, ho, hx⟩
                     obtain ⟨a', c', rfl⟩ := ho.form
                     clear c1 c2 c3
                     have c1 := (XB6.out.ext (X2.out.tr hx)).cell
                     have c2 := (PB6.out.ext (X2.out.tr hx)).cell
                     have c3 := (SB2.out.ext hx).cell
                     clear Y
                     have HG := Lib.hid hg
                     have OW11 := Lib.hid ho
                     have Y := Lib.hid hx
                     clear hg ho hx)
                  | (with_reducible refine wpList_allocA (t := 36) rfl rfl Try.zeroValue36 ?_
                     rintro nb w12 hx1 hx2 hx3
                     have lz : wr.heap.size ≤ nb := Nat.le_trans Y.out.size hx3
                     have y2 := Y.out.tr hx2
                     have ow2 := OW11.out.ext hx2
                     clear hx2 hx3 Y OW11
                     have NB := Lib.hid hx1
                     have Y := Lib.hid y2
                     have LZ2 := Lib.hid lz
                     have OW11 := Lib.hid ow2
                     clear hx1 y2 lz ow2)
                  | (with_reducible refine wpList_storeK (ty := 36) (cells := #[.int .i64 t'.drive, .bool t'.folder, .slice a' t'.units.length c', .int .i64 t'.fresh]) rfl rfl NB.out ?_ ?_ ?_ ?_ ?_ ?_
                     · rfl
                     · rfl
                     · kernel_rfl
                     · rfl
                     · simp [Value.oneCell']
                     rintro w13 hb ho
                     have y2 := Y.out.then_only ho (fun k (e : k = nb) => by rw [e]; exact LZ2.out)
                     have ow2 : OwU w13 (.slice a' t'.units.length c') t' := owns_only OW11.out ho (owns_ne' OW11.out NB.out (by decide))
                     clear ho Y OW11 c1 c2 c3 NB
                     have c1 := (XB6.out.ext (X2.out.tr y2)).cell
                     have c2 := (PB6.out.ext (X2.out.tr y2)).cell
                     have c3 := (SB2.out.ext y2).cell
                     have c4 := hb.cell
                     have NB := Lib.hid hb
                     have Y := Lib.hid y2
                     have OW11 := Lib.hid ow2
                     clear hb y2 ow2)
                  | (with_reducible refine wpList_storeK (ty := 36) (cells := #[.int .i64 t'.drive, .bool t'.folder, .slice a' t'.units.length c', .int .i64 t'.fresh]) rfl rfl (SB2.out.ext Y.out) ?_ ?_ ?_ ?_ ?_ ?_
                     · rfl
                     · rfl
                     · kernel_rfl
                     · rfl
                     · simp [Value.oneCell']
                     rintro w16 hb ho
                     have hx7 := (X2.out.tr Y.out).then_only ho (fun k (e : k = sb) => by rw [e]; exact LZ.out)
                     have how : OwU w16 (.slice a' t'.units.length c') t' := owns_only OW11.out ho (owns_ne' OW11.out (SB2.out.ext Y.out) (by decide))
                     clear ho
                     have SB9 := Lib.hid hb
                     have X9 := Lib.hid hx7
                     have OW9 := Lib.hid how
                     clear hb hx7 how)
                  | fail)
                go_roundw
                case rel => exact ⟨k + 1, t', .slice a' t'.units.length c', by omega, by go_num, HGT2, SB9, OW9, X9⟩
                case measure => first | (simp [intOf]; done) | (simp [intOf]; omega)
              · have f3 : (er == 0) = false := by simp [he]
                clear HG he
                go_wp2
                go_roundw
                case rel => exact ⟨k + 1, t, .slice ta ng tc, by omega, by go_num, GT, SB2.out.ext Y.out, OT.out.ext Y.out, X2.out.tr Y.out⟩
                case measure => first | (simp [intOf]; done) | (simp [intOf]; omega)
            · have f1 : ((m:Int) % 13 == 12) = false := by rw [HRI.out]; simp; omega
              by_cases h7 : 7 ≤ (r:Int) + 1
              · by_cases h11 : (r:Int) + 1 ≤ 11
                · have hd := HDO.out 0 (by omega) (fun _ => rfl)
                  rw [← HRI.out] at h7 h11 hd
                  clear h12
                  have HD := Lib.hid hd
                  clear hd
                  go_upto_region 18 with (first
                    | (go_at_call 22
                       refine (HD.out _ Y.out).mono ?_
                       rintro e w11 ⟨t', er, v', rfl, hg, ho, hx⟩
                       obtain ⟨a', c', rfl⟩ := ho.form
                       clear c1 c2 c3
                       have c1 := (XB6.out.ext (X2.out.tr hx)).cell
                       have c2 := (PB6.out.ext (X2.out.tr hx)).cell
                       have c3 := (SB2.out.ext hx).cell
                       clear Y
                       have HG := Lib.hid hg
                       have OW11 := Lib.hid ho
                       have Y := Lib.hid hx
                       clear hg ho hx)
                    | (with_reducible refine wpList_allocA (t := 36) rfl rfl Try.zeroValue36 ?_
                       rintro nb w12 hx1 hx2 hx3
                       have lz : wr.heap.size ≤ nb := Nat.le_trans Y.out.size hx3
                       have y2 := Y.out.tr hx2
                       have ow2 := OW11.out.ext hx2
                       clear hx2 hx3 Y OW11
                       have NB := Lib.hid hx1
                       have Y := Lib.hid y2
                       have LZ2 := Lib.hid lz
                       have OW11 := Lib.hid ow2
                       clear hx1 y2 lz ow2)
                    | (with_reducible refine wpList_storeK (ty := 36) (cells := #[.int .i64 t'.drive, .bool t'.folder, .slice a' t'.units.length c', .int .i64 t'.fresh]) rfl rfl NB.out ?_ ?_ ?_ ?_ ?_ ?_
                       · rfl
                       · rfl
                       · kernel_rfl
                       · rfl
                       · simp [Value.oneCell']
                       rintro w13 hb ho
                       have y2 := Y.out.then_only ho (fun k (e : k = nb) => by rw [e]; exact LZ2.out)
                       have ow2 : OwU w13 (.slice a' t'.units.length c') t' := owns_only OW11.out ho (owns_ne' OW11.out NB.out (by decide))
                       clear ho Y OW11 c1 c2 c3 NB
                       have c1 := (XB6.out.ext (X2.out.tr y2)).cell
                       have c2 := (PB6.out.ext (X2.out.tr y2)).cell
                       have c3 := (SB2.out.ext y2).cell
                       have c4 := hb.cell
                       have NB := Lib.hid hb
                       have Y := Lib.hid y2
                       have OW11 := Lib.hid ow2
                       clear hb y2 ow2)
                    | (with_reducible refine wpList_storeK (ty := 36) (cells := #[.int .i64 t'.drive, .bool t'.folder, .slice a' t'.units.length c', .int .i64 t'.fresh]) rfl rfl (SB2.out.ext Y.out) ?_ ?_ ?_ ?_ ?_ ?_
                       · rfl
                       · rfl
                       · kernel_rfl
                       · rfl
                       · simp [Value.oneCell']
                       rintro w16 hb ho
                       have hx7 := (X2.out.tr Y.out).then_only ho (fun k (e : k = sb) => by rw [e]; exact LZ.out)
                       have how : OwU w16 (.slice a' t'.units.length c') t' := owns_only OW11.out ho (owns_ne' OW11.out (SB2.out.ext Y.out) (by decide))
                       clear ho
                       have SB9 := Lib.hid hb
                       have X9 := Lib.hid hx7
                       have OW9 := Lib.hid how
                       clear hb hx7 how)
                    | fail)
                  by_cases he : er = 0
                  · subst he
                    have hgt := HG.out rfl
                    have HGT2 := Lib.hid hgt
                    clear hgt
                    go_wp2_with (first
                      | (go_at_call 22
                         refine (HD.out _ Y.out).mono ?_
                         rintro e w11 ⟨t', er, v', rfl, hg, ho, hx⟩
                         obtain ⟨a', c', rfl⟩ := ho.form
                         clear c1 c2 c3
                         have c1 := (XB6.out.ext (X2.out.tr hx)).cell
                         have c2 := (PB6.out.ext (X2.out.tr hx)).cell
                         have c3 := (SB2.out.ext hx).cell
                         clear Y
                         have HG := Lib.hid hg
                         have OW11 := Lib.hid ho
                         have Y := Lib.hid hx
                         clear hg ho hx)
                      | (with_reducible refine wpList_allocA (t := 36) rfl rfl Try.zeroValue36 ?_
                         rintro nb w12 hx1 hx2 hx3
                         have lz : wr.heap.size ≤ nb := Nat.le_trans Y.out.size hx3
                         have y2 := Y.out.tr hx2
                         have ow2 := OW11.out.ext hx2
                         clear hx2 hx3 Y OW11
                         have NB := Lib.hid hx1
                         have Y := Lib.hid y2
                         have LZ2 := Lib.hid lz
                         have OW11 := Lib.hid ow2
                         clear hx1 y2 lz ow2)
                      | (with_reducible refine wpList_storeK (ty := 36) (cells := #[.int .i64 t'.drive, .bool t'.folder, .slice a' t'.units.length c', .int .i64 t'.fresh]) rfl rfl NB.out ?_ ?_ ?_ ?_ ?_ ?_
                         · rfl
                         · rfl
                         · kernel_rfl
                         · rfl
                         · simp [Value.oneCell']
                         rintro w13 hb ho
                         have y2 := Y.out.then_only ho (fun k (e : k = nb) => by rw [e]; exact LZ2.out)
                         have ow2 : OwU w13 (.slice a' t'.units.length c') t' := owns_only OW11.out ho (owns_ne' OW11.out NB.out (by decide))
                         clear ho Y OW11 c1 c2 c3 NB
                         have c1 := (XB6.out.ext (X2.out.tr y2)).cell
                         have c2 := (PB6.out.ext (X2.out.tr y2)).cell
                         have c3 := (SB2.out.ext y2).cell
                         have c4 := hb.cell
                         have NB := Lib.hid hb
                         have Y := Lib.hid y2
                         have OW11 := Lib.hid ow2
                         clear hb y2 ow2)
                      | (with_reducible refine wpList_storeK (ty := 36) (cells := #[.int .i64 t'.drive, .bool t'.folder, .slice a' t'.units.length c', .int .i64 t'.fresh]) rfl rfl (SB2.out.ext Y.out) ?_ ?_ ?_ ?_ ?_ ?_
                         · rfl
                         · rfl
                         · kernel_rfl
                         · rfl
                         · simp [Value.oneCell']
                         rintro w16 hb ho
                         have hx7 := (X2.out.tr Y.out).then_only ho (fun k (e : k = sb) => by rw [e]; exact LZ.out)
                         have how : OwU w16 (.slice a' t'.units.length c') t' := owns_only OW11.out ho (owns_ne' OW11.out (SB2.out.ext Y.out) (by decide))
                         clear ho
                         have SB9 := Lib.hid hb
                         have X9 := Lib.hid hx7
                         have OW9 := Lib.hid how
                         clear hb hx7 how)
                      | fail)
                    go_roundw
                    case rel => exact ⟨k + 1, t', .slice a' t'.units.length c', by omega, by go_num, HGT2, SB9, OW9, X9⟩
                    case measure => first | (simp [intOf]; done) | (simp [intOf]; omega)
                  · have f3 : (er == 0) = false := by simp [he]
                    clear HG he
                    go_wp2
                    go_roundw
                    case rel => exact ⟨k + 1, t, .slice ta ng tc, by omega, by go_num, GT, SB2.out.ext Y.out, OT.out.ext Y.out, X2.out.tr Y.out⟩
                    case measure => first | (simp [intOf]; done) | (simp [intOf]; omega)
                · have hd := HDO.out i hij (fun h => absurd h.2 h11)
                  have i5 : decide ((m:Int) % 13 + 1 ≤ 11) = false := decide_eq_false (by rw [HRI.out]; exact h11)
                  rw [← HRI.out] at h7 hd
                  clear h12 h11
                  have HD := Lib.hid hd
                  clear hd
                  go_upto_region 18 with (first
                    | (go_at_call 22
                       refine (HD.out _ Y.out).mono ?_
                       rintro e w11 ⟨t', er, v', rfl, hg, ho, hx⟩
                       obtain ⟨a', c', rfl⟩ := ho.form
                       clear c1 c2 c3
                       have c1 := (XB6.out.ext (X2.out.tr hx)).cell
                       have c2 := (PB6.out.ext (X2.out.tr hx)).cell
                       have c3 := (SB2.out.ext hx).cell
                       clear Y
                       have HG := Lib.hid hg
                       have OW11 := Lib.hid ho
                       have Y := Lib.hid hx
                       clear hg ho hx)
                    | (with_reducible refine wpList_allocA (t := 36) rfl rfl Try.zeroValue36 ?_
                       rintro nb w12 hx1 hx2 hx3
                       have lz : wr.heap.size ≤ nb := Nat.le_trans Y.out.size hx3
                       have y2 := Y.out.tr hx2
                       have ow2 := OW11.out.ext hx2
                       clear hx2 hx3 Y OW11
                       have NB := Lib.hid hx1
                       have Y := Lib.hid y2
                       have LZ2 := Lib.hid lz
                       have OW11 := Lib.hid ow2
                       clear hx1 y2 lz ow2)
                    | (with_reducible refine wpList_storeK (ty := 36) (cells := #[.int .i64 t'.drive, .bool t'.folder, .slice a' t'.units.length c', .int .i64 t'.fresh]) rfl rfl NB.out ?_ ?_ ?_ ?_ ?_ ?_
                       · rfl
                       · rfl
                       · kernel_rfl
                       · rfl
                       · simp [Value.oneCell']
                       rintro w13 hb ho
                       have y2 := Y.out.then_only ho (fun k (e : k = nb) => by rw [e]; exact LZ2.out)
                       have ow2 : OwU w13 (.slice a' t'.units.length c') t' := owns_only OW11.out ho (owns_ne' OW11.out NB.out (by decide))
                       clear ho Y OW11 c1 c2 c3 NB
                       have c1 := (XB6.out.ext (X2.out.tr y2)).cell
                       have c2 := (PB6.out.ext (X2.out.tr y2)).cell
                       have c3 := (SB2.out.ext y2).cell
                       have c4 := hb.cell
                       have NB := Lib.hid hb
                       have Y := Lib.hid y2
                       have OW11 := Lib.hid ow2
                       clear hb y2 ow2)
                    | (with_reducible refine wpList_storeK (ty := 36) (cells := #[.int .i64 t'.drive, .bool t'.folder, .slice a' t'.units.length c', .int .i64 t'.fresh]) rfl rfl (SB2.out.ext Y.out) ?_ ?_ ?_ ?_ ?_ ?_
                       · rfl
                       · rfl
                       · kernel_rfl
                       · rfl
                       · simp [Value.oneCell']
                       rintro w16 hb ho
                       have hx7 := (X2.out.tr Y.out).then_only ho (fun k (e : k = sb) => by rw [e]; exact LZ.out)
                       have how : OwU w16 (.slice a' t'.units.length c') t' := owns_only OW11.out ho (owns_ne' OW11.out (SB2.out.ext Y.out) (by decide))
                       clear ho
                       have SB9 := Lib.hid hb
                       have X9 := Lib.hid hx7
                       have OW9 := Lib.hid how
                       clear hb hx7 how)
                    | fail)
                  by_cases he : er = 0
                  · subst he
                    have hgt := HG.out rfl
                    have HGT2 := Lib.hid hgt
                    clear hgt
                    go_wp2_with (first
                      | (go_at_call 22
                         refine (HD.out _ Y.out).mono ?_
                         rintro e w11 ⟨t', er, v', rfl, hg, ho, hx⟩
                         obtain ⟨a', c', rfl⟩ := ho.form
                         clear c1 c2 c3
                         have c1 := (XB6.out.ext (X2.out.tr hx)).cell
                         have c2 := (PB6.out.ext (X2.out.tr hx)).cell
                         have c3 := (SB2.out.ext hx).cell
                         clear Y
                         have HG := Lib.hid hg
                         have OW11 := Lib.hid ho
                         have Y := Lib.hid hx
                         clear hg ho hx)
                      | (with_reducible refine wpList_allocA (t := 36) rfl rfl Try.zeroValue36 ?_
                         rintro nb w12 hx1 hx2 hx3
                         have lz : wr.heap.size ≤ nb := Nat.le_trans Y.out.size hx3
                         have y2 := Y.out.tr hx2
                         have ow2 := OW11.out.ext hx2
                         clear hx2 hx3 Y OW11
                         have NB := Lib.hid hx1
                         have Y := Lib.hid y2
                         have LZ2 := Lib.hid lz
                         have OW11 := Lib.hid ow2
                         clear hx1 y2 lz ow2)
                      | (with_reducible refine wpList_storeK (ty := 36) (cells := #[.int .i64 t'.drive, .bool t'.folder, .slice a' t'.units.length c', .int .i64 t'.fresh]) rfl rfl NB.out ?_ ?_ ?_ ?_ ?_ ?_
                         · rfl
                         · rfl
                         · kernel_rfl
                         · rfl
                         · simp [Value.oneCell']
                         rintro w13 hb ho
                         have y2 := Y.out.then_only ho (fun k (e : k = nb) => by rw [e]; exact LZ2.out)
                         have ow2 : OwU w13 (.slice a' t'.units.length c') t' := owns_only OW11.out ho (owns_ne' OW11.out NB.out (by decide))
                         clear ho Y OW11 c1 c2 c3 NB
                         have c1 := (XB6.out.ext (X2.out.tr y2)).cell
                         have c2 := (PB6.out.ext (X2.out.tr y2)).cell
                         have c3 := (SB2.out.ext y2).cell
                         have c4 := hb.cell
                         have NB := Lib.hid hb
                         have Y := Lib.hid y2
                         have OW11 := Lib.hid ow2
                         clear hb y2 ow2)
                      | (with_reducible refine wpList_storeK (ty := 36) (cells := #[.int .i64 t'.drive, .bool t'.folder, .slice a' t'.units.length c', .int .i64 t'.fresh]) rfl rfl (SB2.out.ext Y.out) ?_ ?_ ?_ ?_ ?_ ?_
                         · rfl
                         · rfl
                         · kernel_rfl
                         · rfl
                         · simp [Value.oneCell']
                         rintro w16 hb ho
                         have hx7 := (X2.out.tr Y.out).then_only ho (fun k (e : k = sb) => by rw [e]; exact LZ.out)
                         have how : OwU w16 (.slice a' t'.units.length c') t' := owns_only OW11.out ho (owns_ne' OW11.out (SB2.out.ext Y.out) (by decide))
                         clear ho
                         have SB9 := Lib.hid hb
                         have X9 := Lib.hid hx7
                         have OW9 := Lib.hid how
                         clear hb hx7 how)
                      | fail)
                    go_roundw
                    case rel => exact ⟨k + 1, t', .slice a' t'.units.length c', by omega, by go_num, HGT2, SB9, OW9, X9⟩
                    case measure => first | (simp [intOf]; done) | (simp [intOf]; omega)
                  · have f3 : (er == 0) = false := by simp [he]
                    clear HG he
                    go_wp2
                    go_roundw
                    case rel => exact ⟨k + 1, t, .slice ta ng tc, by omega, by go_num, GT, SB2.out.ext Y.out, OT.out.ext Y.out, X2.out.tr Y.out⟩
                    case measure => first | (simp [intOf]; done) | (simp [intOf]; omega)
              · have hd := HDO.out i hij (fun h => absurd h.1 h7)
                have i5 : decide (7 ≤ (m:Int) % 13 + 1) = false := decide_eq_false (by rw [HRI.out]; exact h7)
                rw [← HRI.out] at hd
                clear h12 h7
                have HD := Lib.hid hd
                clear hd
                go_upto_region 18 with (first
                  | (go_at_call 22
                     refine (HD.out _ Y.out).mono ?_
                     rintro e w11 ⟨t', er, v', rfl, hg, ho, hx⟩
                     obtain ⟨a', c', rfl⟩ := ho.form
                     clear c1 c2 c3
                     have c1 := (XB6.out.ext (X2.out.tr hx)).cell
                     have c2 := (PB6.out.ext (X2.out.tr hx)).cell
                     have c3 := (SB2.out.ext hx).cell
                     clear Y
                     have HG := Lib.hid hg
                     have OW11 := Lib.hid ho
                     have Y := Lib.hid hx
                     clear hg ho hx)
                  | (with_reducible refine wpList_allocA (t := 36) rfl rfl Try.zeroValue36 ?_
                     rintro nb w12 hx1 hx2 hx3
                     have lz : wr.heap.size ≤ nb := Nat.le_trans Y.out.size hx3
                     have y2 := Y.out.tr hx2
                     have ow2 := OW11.out.ext hx2
                     clear hx2 hx3 Y OW11
                     have NB := Lib.hid hx1
                     have Y := Lib.hid y2
                     have LZ2 := Lib.hid lz
                     have OW11 := Lib.hid ow2
                     clear hx1 y2 lz ow2)
                  | (with_reducible refine wpList_storeK (ty := 36) (cells := #[.int .i64 t'.drive, .bool t'.folder, .slice a' t'.units.length c', .int .i64 t'.fresh]) rfl rfl NB.out ?_ ?_ ?_ ?_ ?_ ?_
                     · rfl
                     · rfl
                     · kernel_rfl
                     · rfl
                     · simp [Value.oneCell']
                     rintro w13 hb ho
                     have y2 := Y.out.then_only ho (fun k (e : k = nb) => by rw [e]; exact LZ2.out)
                     have ow2 : OwU w13 (.slice a' t'.units.length c') t' := owns_only OW11.out ho (owns_ne' OW11.out NB.out (by decide))
                     clear ho Y OW11 c1 c2 c3 NB
                     have c1 := (XB6.out.ext (X2.out.tr y2)).cell
                     have c2 := (PB6.out.ext (X2.out.tr y2)).cell
                     have c3 := (SB2.out.ext y2).cell
                     have c4 := hb.cell
                     have NB := Lib.hid hb
                     have Y := Lib.hid y2
                     have OW11 := Lib.hid ow2
                     clear hb y2 ow2)
                  | (with_reducible refine wpList_storeK (ty := 36) (cells := #[.int .i64 t'.drive, .bool t'.folder, .slice a' t'.units.length c', .int .i64 t'.fresh]) rfl rfl (SB2.out.ext Y.out) ?_ ?_ ?_ ?_ ?_ ?_
                     · rfl
                     · rfl
                     · kernel_rfl
                     · rfl
                     · simp [Value.oneCell']
                     rintro w16 hb ho
                     have hx7 := (X2.out.tr Y.out).then_only ho (fun k (e : k = sb) => by rw [e]; exact LZ.out)
                     have how : OwU w16 (.slice a' t'.units.length c') t' := owns_only OW11.out ho (owns_ne' OW11.out (SB2.out.ext Y.out) (by decide))
                     clear ho
                     have SB9 := Lib.hid hb
                     have X9 := Lib.hid hx7
                     have OW9 := Lib.hid how
                     clear hb hx7 how)
                  | fail)
                by_cases he : er = 0
                · subst he
                  have hgt := HG.out rfl
                  have HGT2 := Lib.hid hgt
                  clear hgt
                  go_wp2_with (first
                    | (go_at_call 22
                       refine (HD.out _ Y.out).mono ?_
                       rintro e w11 ⟨t', er, v', rfl, hg, ho, hx⟩
                       obtain ⟨a', c', rfl⟩ := ho.form
                       clear c1 c2 c3
                       have c1 := (XB6.out.ext (X2.out.tr hx)).cell
                       have c2 := (PB6.out.ext (X2.out.tr hx)).cell
                       have c3 := (SB2.out.ext hx).cell
                       clear Y
                       have HG := Lib.hid hg
                       have OW11 := Lib.hid ho
                       have Y := Lib.hid hx
                       clear hg ho hx)
                    | (with_reducible refine wpList_allocA (t := 36) rfl rfl Try.zeroValue36 ?_
                       rintro nb w12 hx1 hx2 hx3
                       have lz : wr.heap.size ≤ nb := Nat.le_trans Y.out.size hx3
                       have y2 := Y.out.tr hx2
                       have ow2 := OW11.out.ext hx2
                       clear hx2 hx3 Y OW11
                       have NB := Lib.hid hx1
                       have Y := Lib.hid y2
                       have LZ2 := Lib.hid lz
                       have OW11 := Lib.hid ow2
                       clear hx1 y2 lz ow2)
                    | (with_reducible refine wpList_storeK (ty := 36) (cells := #[.int .i64 t'.drive, .bool t'.folder, .slice a' t'.units.length c', .int .i64 t'.fresh]) rfl rfl NB.out ?_ ?_ ?_ ?_ ?_ ?_
                       · rfl
                       · rfl
                       · kernel_rfl
                       · rfl
                       · simp [Value.oneCell']
                       rintro w13 hb ho
                       have y2 := Y.out.then_only ho (fun k (e : k = nb) => by rw [e]; exact LZ2.out)
                       have ow2 : OwU w13 (.slice a' t'.units.length c') t' := owns_only OW11.out ho (owns_ne' OW11.out NB.out (by decide))
                       clear ho Y OW11 c1 c2 c3 NB
                       have c1 := (XB6.out.ext (X2.out.tr y2)).cell
                       have c2 := (PB6.out.ext (X2.out.tr y2)).cell
                       have c3 := (SB2.out.ext y2).cell
                       have c4 := hb.cell
                       have NB := Lib.hid hb
                       have Y := Lib.hid y2
                       have OW11 := Lib.hid ow2
                       clear hb y2 ow2)
                    | (with_reducible refine wpList_storeK (ty := 36) (cells := #[.int .i64 t'.drive, .bool t'.folder, .slice a' t'.units.length c', .int .i64 t'.fresh]) rfl rfl (SB2.out.ext Y.out) ?_ ?_ ?_ ?_ ?_ ?_
                       · rfl
                       · rfl
                       · kernel_rfl
                       · rfl
                       · simp [Value.oneCell']
                       rintro w16 hb ho
                       have hx7 := (X2.out.tr Y.out).then_only ho (fun k (e : k = sb) => by rw [e]; exact LZ.out)
                       have how : OwU w16 (.slice a' t'.units.length c') t' := owns_only OW11.out ho (owns_ne' OW11.out (SB2.out.ext Y.out) (by decide))
                       clear ho
                       have SB9 := Lib.hid hb
                       have X9 := Lib.hid hx7
                       have OW9 := Lib.hid how
                       clear hb hx7 how)
                    | fail)
                  go_roundw
                  case rel => exact ⟨k + 1, t', .slice a' t'.units.length c', by omega, by go_num, HGT2, SB9, OW9, X9⟩
                  case measure => first | (simp [intOf]; done) | (simp [intOf]; omega)
                · have f3 : (er == 0) = false := by simp [he]
                  clear HG he
                  go_wp2
                  go_roundw
                  case rel => exact ⟨k + 1, t, .slice ta ng tc, by omega, by go_num, GT, SB2.out.ext Y.out, OT.out.ext Y.out, X2.out.tr Y.out⟩
                  case measure => first | (simp [intOf]; done) | (simp [intOf]; omega)
        · have i2 : decide ((k:Int) < (nx:Int)) = false := decide_eq_false (by omega)
          obtain ⟨w20, rfl⟩ : ∃ W, W = wr := ⟨wr, rfl⟩
          have xe := X6.out.tr X2.out
          have pb7 := PB6.out.ext X2.out
          have gb7 := GB6.out.ext X2.out
          have tr7 := Sl.ext TR6.out X2.out
          have hg7 := Sl.ext HGT.out xe
          have ha : aimedD t g = true := by
            unfold aimedD
            rw [htl, HNG.out, HGD.out]
            simp [HD2.out]
          have F := find_facts GT.out.1 GT.out.2 ha
          have R := refute_facts GT.out.1 ha (codesS_perm p t)
          have hcs := codes_small GT.out
          have hng3 : ng ≤ 3 := hl.2
          have hgo := fun W (k : Ext w20 W) => pv_goal g (.slice ag ng cg) W (Sl.ext hg7 k) (by rw [HNG.out]; exact hng3)
          have hcl := fun W (k : Ext w20 W) => pv_closed GT.out (.slice va ng ca) (.slice ta ng tc) W (Sl.ext tr7 k) (OT.out.ext k)
          have hcd := fun W (k : Ext w20 W) => pv_code GT.out (.slice va ng ca) (.slice ta ng tc) W (Sl.ext tr7 k) (OT.out.ext k)
          have hre := fun (cs : List Int) (hI : ∀ c ∈ cs, I64 c) vg vc W (k : Ext w20 W) (hg : Truths W vg g.pressed) (hc : Ints W vc cs) => refute_any p t g cs (.slice va ng ca) (.slice ta ng tc) vg vc W (Sl.ext tr7 k) ((OT.out.ext k).un (by rw [htl]; omega)) hg (by rw [htl]; omega) hc hI
          have hve := fun (l : List (Int × Int)) (hI : ∀ a ∈ l, I64 a.1) vg vl W (k : Ext w20 W) (hg : Truths W vg g.pressed) (hl : AcIn W vl l) => verify_any p t g l (.slice va ng ca) (.slice ta ng tc) vg vl W (Sl.ext tr7 k) ((OT.out.ext k).un (by rw [htl]; omega)) hg (by rw [htl]; omega) hl hI
          have hfn := fun vg W (k : Ext w20 W) (hg : Truths W vg g.pressed) => find_any p t g (.slice va ng ca) (.slice ta ng tc) vg W (Sl.ext tr7 k) ((OT.out.ext k).un (by rw [htl]; omega)) hg (by rw [htl]; omega)
          have hfp := fun (hl : (findL p t g).length ≤ 26) vg W (k : Ext w20 W) (hg : Truths W vg g.pressed) => pv_find GT.out g hl (.slice va ng ca) (.slice ta ng tc) vg W (Sl.ext tr7 k) (OT.out.ext k) hg
          obtain ⟨CS, hCS⟩ : ∃ C, codesS p t = C := ⟨_, rfl⟩
          obtain ⟨R0, hR0⟩ : ∃ C, codeD t = C := ⟨_, rfl⟩
          obtain ⟨L, hL⟩ : ∃ C, findL p t g = C := ⟨_, rfl⟩
          rw [hCS] at R hcs hcl
          rw [hR0] at R hcd
          rw [hL] at F hfp
          unfold gV at hgo
          unfold pV sV at hcl hcd
          unfold pV sV gV at hre hve hfn hfp
          rw [HGD.out, HNG.out] at hgo
          rw [HGD.out] at hre hve hfn hfp
          have hpos : 0 < CS.length := by have := R.2.2.1; omega
          obtain ⟨hcs1, hcs2⟩ := hcs
          obtain ⟨nc, hnc⟩ : ∃ n, CS.length = n := ⟨_, rfl⟩
          rw [hnc] at hcl hcs1 hpos
          have c2 := pb7.cell
          have c3 := SB2.out.cell
          have c5 := gb7.cell
          have sb7 := SB2.out
          clear hR0 hCS ha hg7 tr7 gb7
          have HGO := Lib.hid hgo
          have HCL := Lib.hid hcl
          have HCD := Lib.hid hcd
          have HRE := Lib.hid hre
          have HVE := Lib.hid hve
          have PB7 := Lib.hid pb7
          have SB7 := Lib.hid sb7
          have XE := Lib.hid xe
          have HNC := Lib.hid hnc
          have HCI := Lib.hid hcs2
          clear hgo hcl hcd hre hve pb7 sb7 xe hnc hcs2
          rcases F with ⟨hf4, hno⟩ | ⟨hf0, hyes, hl26, hI, hv0, hvn⟩
          · have hrf := R.1 hno
            as_aux_lemma =>
              have hr1 := HRE.out CS HCI.out
              rw [hrf] at hr1
              have hfi : ∀ vg W, Ext w20 W → Truths W vg g.pressed → Calls Try.prog 25 #[.agg #[.slice va ng ca, .int .i64 p.warm, .int .i64 p.tail, .int .i64 p.dirt], .agg #[.int .i64 t.drive, .bool t.folder, .slice ta ng tc, .int .i64 t.fresh], .agg #[.int .i64 gd, vg]] W fun e w' => ∃ va, e = .returned (.tuple #[va, .int .i64 4]) ∧ Ext W w' := fun vg W k hg =>
                (hfn vg W k hg).mono fun e w' ⟨va, h1, _, h2⟩ => ⟨va, by rw [h1, hf4], h2⟩
              clear hfn hfp R hno hrf hf4 HRE HVE HCD
              have HRF := Lib.hid hr1
              have HFI := Lib.hid hfi
              clear hr1 hfi
              go_wp2_with (first
                | (go_at_call 39
                   refine (HGO.out _ (Below.refl _ _)).mono ?_
                   rintro e w21 ⟨ga, gc, rfl, htg, hx⟩
                   clear c2 c3 c5
                   have TG := Lib.hid htg
                   have Y := Lib.hid hx
                   clear htg hx)
                | (with_reducible refine wpList_allocA (t := 69) rfl rfl Try.zeroValue69 ?_
                   rintro zb w22 hx1 hx2 hx3
                   have lz : w20.heap.size ≤ zb := Nat.le_trans Y.out.size hx3
                   have y2 := Y.out.tr hx2
                   have tg2 := owns_ext TG.out hx2
                   clear Y TG hx2 hx3
                   have ZB := Lib.hid hx1
                   have Y := Lib.hid y2
                   have LZ3 := Lib.hid lz
                   have TG := Lib.hid tg2
                   clear hx1 y2 lz tg2)
                | (with_reducible refine wpList_storeK (ty := 69) (cells := #[.int .i64 gd, .slice ga ng gc]) rfl rfl ZB.out ?_ ?_ ?_ ?_ ?_ ?_
                   · rfl
                   · rfl
                   · kernel_rfl
                   · rfl
                   · simp [Value.oneCell']
                   rintro w23 hb ho
                   have y2 := Y.out.then_only ho (fun k (e : k = zb) => by rw [e]; exact LZ3.out)
                   have tg2 := owns_only TG.out ho (owns_ne' TG.out ZB.out (by decide))
                   have tg3 : Truths w23 (.slice ga ng gc) g.pressed := Sl.of_owns tg2
                   clear ho Y TG ZB tg2
                   have c2 := (PB7.out.ext y2).cell
                   have c3 := (SB7.out.ext y2).cell
                   have c6 := hb.cell
                   have ZB := Lib.hid hb
                   have Y := Lib.hid y2
                   have TG := Lib.hid tg3
                   clear hb y2 tg3)
                | (go_at_call 40
                   refine (HCL.out _ Y.out).mono ?_
                   rintro e w25 ⟨vc, rfl, hoc, hx⟩
                   obtain ⟨ac, cc, rfl⟩ := row_form hoc
                   have y2 := Y.out.tr hx
                   try (have x24 := X24.out.tr hx; clear X24; have X24 := Lib.hid x24; clear x24)
                   have tg2 := Sl.ext TG.out hx
                   have zb2 := ZB.out.ext hx
                   have ic : Ints w25 (.slice ac nc cc) CS := Sl.of_owns hoc
                   clear c2 c3 c6 Y TG ZB hx hoc
                   have c2 := (PB7.out.ext y2).cell
                   have c3 := (SB7.out.ext y2).cell
                   have c6 := zb2.cell
                   have ZB := Lib.hid zb2
                   have Y := Lib.hid y2
                   have TG := Lib.hid tg2
                   have IC := Lib.hid ic
                   clear zb2 y2 tg2 ic)
                | (go_at_call 41
                   refine (HRF.out _ _ _ Y.out TG.out IC.out).mono ?_
                   rintro e w26 ⟨rfl, hx⟩
                   have y2 := Y.out.tr hx
                   try (have x24 := X24.out.tr hx; clear X24; have X24 := Lib.hid x24; clear x24)
                   have tg2 := Sl.ext TG.out hx
                   have zb2 := ZB.out.ext hx
                   have ic2 := Sl.ext IC.out hx
                   clear c2 c3 c6 Y TG ZB hx IC
                   have c2 := (PB7.out.ext y2).cell
                   have c3 := (SB7.out.ext y2).cell
                   have c6 := zb2.cell
                   have ZB := Lib.hid zb2
                   have Y := Lib.hid y2
                   have TG := Lib.hid tg2
                   have IC := Lib.hid ic2
                   clear zb2 y2 tg2 ic2)
                | (go_at_call 10
                   refine (awake_any _).mono ?_
                   rintro e w27 ⟨rfl, hx⟩
                   have y2 := Y.out.tr hx
                   clear Y hx
                   have Y := Lib.hid y2
                   clear y2)
                | (go_at_call 25
                   refine (HFI.out _ _ Y.out TG.out).mono ?_
                   rintro e w24 ⟨va2, rfl, hx⟩
                   have y2 := Y.out.tr hx
                   have tg2 := Sl.ext TG.out hx
                   have zb2 := ZB.out.ext hx
                   clear c2 c3 c6 Y TG ZB hx
                   have c2 := (PB7.out.ext y2).cell
                   have c3 := (SB7.out.ext y2).cell
                   have c6 := zb2.cell
                   have ZB := Lib.hid zb2
                   have Y := Lib.hid y2
                   have TG := Lib.hid tg2
                   clear zb2 y2 tg2)
                | fail)
              go_ret
              exact ⟨rfl, XE.out.tr Y.out⟩
          have hrf := R.2.1 hyes
          have hr1 := HRE.out CS HCI.out
          rw [hrf] at hr1
          have hfi := hfp hl26
          rw [hf0] at hfi
          obtain ⟨nl, hnl⟩ : ∃ n, L.length = n := ⟨_, rfl⟩
          rw [hnl] at hfi hl26 hvn
          have hv1 := HVE.out L hI
          rw [hv0] at hv1
          have hv2 := fun n (hn : n < nl) => HVE.out (L.take n) (fun a ha => hI a (List.mem_of_mem_take ha))
          have hv3 := hvn
          have hr2 := HRE.out (CS.filter fun c => c != R0) (fun c hc => HCI.out c (List.mem_filter.1 hc).1)
          rw [R.2.2.2] at hr2
          have hfl := R.2.2.1
          rw [HNC.out] at hfl
          clear hfn hfp hyes hrf HVE hf0 R HRE
          have HR2 := Lib.hid hr2
          have HFL := Lib.hid hfl
          clear hr2 hfl
          have HRF := Lib.hid hr1
          have HFI := Lib.hid hfi
          have HV1 := Lib.hid hv1
          have HV2 := Lib.hid hv2
          have HVN := Lib.hid hv3
          have HLN := Lib.hid hnl
          clear hr1 hfi hv1 hv2 hv3 hnl
          go_upto_region 30 with (first
            | (go_at_call 39
               refine (HGO.out _ (Below.refl _ _)).mono ?_
               rintro e w21 ⟨ga, gc, rfl, htg, hx⟩
               clear c2 c3 c5
               have TG := Lib.hid htg
               have Y := Lib.hid hx
               clear htg hx)
            | (with_reducible refine wpList_allocA (t := 69) rfl rfl Try.zeroValue69 ?_
               rintro zb w22 hx1 hx2 hx3
               have lz : w20.heap.size ≤ zb := Nat.le_trans Y.out.size hx3
               have y2 := Y.out.tr hx2
               have tg2 := owns_ext TG.out hx2
               clear Y TG hx2 hx3
               have ZB := Lib.hid hx1
               have Y := Lib.hid y2
               have LZ3 := Lib.hid lz
               have TG := Lib.hid tg2
               clear hx1 y2 lz tg2)
            | (with_reducible refine wpList_storeK (ty := 69) (cells := #[.int .i64 gd, .slice ga ng gc]) rfl rfl ZB.out ?_ ?_ ?_ ?_ ?_ ?_
               · rfl
               · rfl
               · kernel_rfl
               · rfl
               · simp [Value.oneCell']
               rintro w23 hb ho
               have y2 := Y.out.then_only ho (fun k (e : k = zb) => by rw [e]; exact LZ3.out)
               have tg2 := owns_only TG.out ho (owns_ne' TG.out ZB.out (by decide))
               have tg3 : Truths w23 (.slice ga ng gc) g.pressed := Sl.of_owns tg2
               clear ho Y TG ZB tg2
               have c2 := (PB7.out.ext y2).cell
               have c3 := (SB7.out.ext y2).cell
               have c6 := hb.cell
               have ZB := Lib.hid hb
               have Y := Lib.hid y2
               have TG := Lib.hid tg3
               clear hb y2 tg3)
            | (go_at_call 40
               refine (HCL.out _ Y.out).mono ?_
               rintro e w25 ⟨vc, rfl, hoc, hx⟩
               obtain ⟨ac, cc, rfl⟩ := row_form hoc
               have y2 := Y.out.tr hx
               try (have x24 := X24.out.tr hx; clear X24; have X24 := Lib.hid x24; clear x24)
               have tg2 := Sl.ext TG.out hx
               have zb2 := ZB.out.ext hx
               have ic : Ints w25 (.slice ac nc cc) CS := Sl.of_owns hoc
               clear c2 c3 c6 Y TG ZB hx hoc
               have c2 := (PB7.out.ext y2).cell
               have c3 := (SB7.out.ext y2).cell
               have c6 := zb2.cell
               have ZB := Lib.hid zb2
               have Y := Lib.hid y2
               have TG := Lib.hid tg2
               have IC := Lib.hid ic
               clear zb2 y2 tg2 ic)
            | (go_at_call 41
               refine (HRF.out _ _ _ Y.out TG.out IC.out).mono ?_
               rintro e w26 ⟨rfl, hx⟩
               have y2 := Y.out.tr hx
               try (have x24 := X24.out.tr hx; clear X24; have X24 := Lib.hid x24; clear x24)
               have tg2 := Sl.ext TG.out hx
               have zb2 := ZB.out.ext hx
               have ic2 := Sl.ext IC.out hx
               clear c2 c3 c6 Y TG ZB hx IC
               have c2 := (PB7.out.ext y2).cell
               have c3 := (SB7.out.ext y2).cell
               have c6 := zb2.cell
               have ZB := Lib.hid zb2
               have Y := Lib.hid y2
               have TG := Lib.hid tg2
               have IC := Lib.hid ic2
               clear zb2 y2 tg2 ic2)
            | (go_at_call 10
               refine (awake_any _).mono ?_
               rintro e w27 ⟨rfl, hx⟩
               have y2 := Y.out.tr hx
               clear Y hx
               have Y := Lib.hid y2
               clear y2)
            | (go_at_call 25
               refine (HFI.out _ _ Y.out TG.out).mono ?_
               rintro e w24 ⟨fa, fc, rfl, hcap, hac, hx⟩
               have y2 := Y.out.tr hx
               have tg2 := Sl.ext TG.out hx
               have zb2 := ZB.out.ext hx
               clear c2 c3 c6 Y TG ZB hx
               have c2 := (PB7.out.ext y2).cell
               have c3 := (SB7.out.ext y2).cell
               have c6 := zb2.cell
               have hx24 : Ext w24 w24 := Below.refl _ _
               have ZB := Lib.hid zb2
               have Y := Lib.hid y2
               have TG := Lib.hid tg2
               have AC := Lib.hid hac
               have CAP := Lib.hid hcap
               have X24 := Lib.hid hx24
               clear zb2 y2 tg2 hac hcap hx24)
            | (go_at_call 26
               refine (HV1.out _ _ _ Y.out TG.out ?_).mono ?_
               · have h1 := (AC.out nl (Nat.le_refl _)).ext X24.out
                 rwa [List.take_of_length_le (Nat.le_of_eq HLN.out)] at h1
               rintro e w28 ⟨rfl, hx⟩
               have y2 := Y.out.tr hx
               have x24 := X24.out.tr hx
               clear X24
               have X24 := Lib.hid x24
               have tg2 := Sl.ext TG.out hx
               have zb2 := ZB.out.ext hx
               have ic2 := Sl.ext IC.out hx
               clear c2 c3 c6 Y TG ZB hx IC
               have c2 := (PB7.out.ext y2).cell
               have c3 := (SB7.out.ext y2).cell
               have c6 := zb2.cell
               have ZB := Lib.hid zb2
               have Y := Lib.hid y2
               have TG := Lib.hid tg2
               have IC := Lib.hid ic2
               clear zb2 y2 tg2 ic2)
            | fail)
          go_upto_region 31 with (fail)
          clear c2 c3 c6 HFI HV1 HRF
          go_loopw [21] (fun t21 wr => ∃ n : Nat, n ≤ nl ∧ t21 = .int .i64 n ∧ Hid (Ext w28 wr)) (fun t21 _ => nl - (intOf t21).toNat)
          case atStart => exact ⟨0, Nat.zero_le _, rfl, Below.refl _ _⟩
          case round =>
            obtain ⟨n, hn, rfl, X5⟩ := hrel
            by_cases hlt2 : n < nl
            · have hS : ∀ W, Ext wr W → ((∀ j, W.cell? ⟨pb, j, none⟩ = (#[.slice va ng ca, .int .i64 p.warm, .int .i64 p.tail, .int .i64 p.dirt] : Array Value)[j]?) ∧ (∀ j, W.cell? ⟨sb, j, none⟩ = (#[.int .i64 t.drive, .bool t.folder, .slice ta ng tc, .int .i64 t.fresh] : Array Value)[j]?) ∧ (∀ j, W.cell? ⟨zb, j, none⟩ = (#[.int .i64 gd, .slice ga ng gc] : Array Value)[j]?)) := fun W k => ⟨(PB7.out.ext (Y.out.tr (X5.out.tr k))).cell, (SB7.out.ext (Y.out.tr (X5.out.tr k))).cell, (ZB.out.ext (X5.out.tr k)).cell⟩
              have hv3 := fun W (k : Ext wr W) => HV2.out n hlt2 _ _ W (Y.out.tr (X5.out.tr k)) (Sl.ext TG.out (X5.out.tr k)) ((AC.out n (by omega)).ext (X24.out.tr (X5.out.tr k)))
              rw [HVN.out n hlt2] at hv3
              have i1 : (0:Int) ≤ (n:Int) := by omega
              have i3 : (n:Int) < (nl:Int) := by omega
              have hcp := CAP.out
              have i4 : (n:Int) ≤ (fc:Int) := by omega
              have HV3 := Lib.hid hv3
              clear hv3
              go_upto_region 33 with (fail)
              go_cut [182] from 175 to 182 (fun v W => v = .bool false ∧ Hid (Ext wr W))
              case first =>
                as_aux_lemma =>
                  go_region_held3 (fun wx => (∀ j, wx.cell? ⟨pb, j, none⟩ = (#[.slice va ng ca, .int .i64 p.warm, .int .i64 p.tail, .int .i64 p.dirt] : Array Value)[j]?) ∧ (∀ j, wx.cell? ⟨sb, j, none⟩ = (#[.int .i64 t.drive, .bool t.folder, .slice ta ng tc, .int .i64 t.fresh] : Array Value)[j]?) ∧ (∀ j, wx.cell? ⟨zb, j, none⟩ = (#[.int .i64 gd, .slice ga ng gc] : Array Value)[j]?))
                    ((first | exact hS _ (Below.refl _ wr).drew | exact hS _ XS.out))
                    ((first
                      | (go_at_call 26
                         refine (HV3.out _ (Below.refl _ wr).drew).mono ?_
                         rintro e wb ⟨rfl, hx⟩
                         have xs : Ext wr wb := Ext.tr (Below.refl _ wr).drew hx
                         clear hx
                         have XS := Lib.hid xs
                         clear xs)))
                  go_wp2
                  go_meet
                  case rel => exact ⟨by simp, XS⟩
              case rest =>
              obtain ⟨rfl, XS⟩ := hcut
              obtain ⟨w29, rfl⟩ : ∃ W, W = wc := ⟨wc, rfl⟩
              clear hS
              go_wp2
              go_roundw
              case rel => exact ⟨n + 1, by omega, by go_num, X5.out.tr XS.out⟩
              case measure => first | (simp [intOf]; done) | (simp [intOf]; omega)
            · have i3 : decide ((n:Int) < (nl:Int)) = false := decide_eq_false (by omega)
              obtain ⟨w30, rfl⟩ : ∃ W, W = wr := ⟨wr, rfl⟩
              have y5 := Y.out.tr X5.out
              have tg5 := Sl.ext TG.out X5.out
              have ic5 := Sl.ext IC.out X5.out
              have zb5 := ZB.out.ext X5.out
              have c2 := (PB7.out.ext y5).cell
              have c3 := (SB7.out.ext y5).cell
              have c6 := zb5.cell
              have i4 : (0:Int) < (nc:Int) := by omega
              clear Y TG IC ZB AC HV2 HVN
              have Y := Lib.hid y5
              have TG := Lib.hid tg5
              have IC := Lib.hid ic5
              have ZB := Lib.hid zb5
              clear y5 tg5 ic5 zb5
              by_cases h20 : nc < 2000
              · have i5 : (nc:Int) < 2000 := by omega
                clear h20
                go_upto_region 41 with (
                  go_at_call 31
                  refine (HCD.out _ Y.out).mono ?_
                  rintro e w31 ⟨rfl, hx⟩
                  have y2 := Y.out.tr hx
                  have tg2 := Sl.ext TG.out hx
                  have ic2 := Sl.ext IC.out hx
                  have zb2 := ZB.out.ext hx
                  clear c2 c3 c6 Y TG IC ZB hx
                  have ZB := Lib.hid zb2
                  have Y := Lib.hid y2
                  have TG := Lib.hid tg2
                  have IC := Lib.hid ic2
                  clear zb2 y2 tg2 ic2)
                clear i4 i5
                go_loopw [24, 25] (fun v24 t25 wr => ∃ (q m6 : Nat), q ≤ nc ∧ t25 = .int .i64 q ∧ Hid (m6 = ((CS.take q).filter fun c => c != R0).length) ∧ Hid (wr.ownsRow w31.heap.size 3 1 v24 m6 (((CS.take q).filter fun c => c != R0).map (Value.int .i64))) ∧ Hid (Ext w31 wr)) (fun _ t25 _ => nc - (intOf t25).toNat)
                case atStart => exact ⟨0, 0, Nat.zero_le _, rfl, rfl, World.ownsRow_nil _ _ _ _, Below.refl _ _⟩
                case round =>
                  obtain ⟨q, m6, hq, rfl, HM6, HA, HX⟩ := hrel
                  obtain ⟨a6, c6, rfl⟩ := row_form HA.out
                  by_cases hlt3 : q < nc
                  · have hqc : q < CS.length := by rw [HNC.out]; exact hlt3
                    obtain ⟨b1, o1, hab, hcc⟩ := Ints.cells (Sl.ext IC.out HX.out) (by omega)
                    subst hab
                    have d0 := hcc q hqc
                    have hm6 : m6 ≤ 24576 := by
                      have h1 := HM6.out
                      have h2 := List.length_filter_le (fun c => c != R0) (CS.take q)
                      rw [List.length_take] at h2
                      omega
                    have hts : CS.take (q + 1) = CS.take q ++ [CS[q]] := List.take_succ_eq_append_getElem hqc
                    obtain ⟨x, hx⟩ : ∃ x, CS[q] = x := ⟨_, rfl⟩
                    rw [hx] at d0 hts
                    have i1 : (0:Int) ≤ (q:Int) := by omega
                    have i6 : (q:Int) < (nc:Int) := by omega
                    clear hcc hx
                    by_cases hxr : x = R0
                    · have f1 : (x != R0) = false := by simp [hxr]
                      have hfs : (CS.take (q + 1)).filter (fun c => c != R0) = (CS.take q).filter fun c => c != R0 := by
                        rw [hts, List.filter_append, List.filter_cons_of_neg (by simp [hxr])]; simp
                      clear hxr hts
                      have HFS := Lib.hid hfs
                      clear hfs
                      go_wp2
                      go_roundw
                      case rel => exact ⟨q + 1, m6, by omega, by go_num, by rw [HFS.out]; exact HM6, by rw [HFS.out]; exact HA, HX⟩
                      case measure => first | (simp [intOf]; done) | (simp [intOf]; omega)
                    · have f1 : (x != R0) = true := by simp [hxr]
                      have hfs : (CS.take (q + 1)).filter (fun c => c != R0) = ((CS.take q).filter fun c => c != R0) ++ [x] := by
                        rw [hts, List.filter_append, List.filter_cons_of_pos (by simp [hxr])]; simp
                      have hsn : (((CS.take (q + 1)).filter fun c => c != R0).map (Value.int .i64)) = (((CS.take q).filter fun c => c != R0).map (Value.int .i64)) ++ [.int .i64 x] := by rw [hfs, List.map_append]; rfl
                      have hln : m6 + 1 = ((CS.take (q + 1)).filter fun c => c != R0).length := by rw [hfs, List.length_append, ← HM6.out]; rfl
                      clear hxr hts hfs
                      have HSN := Lib.hid hsn
                      have HLN2 := Lib.hid hln
                      clear hsn hln
                      go_wp2_with (
                        at_builtin
                        refine wpList_app (n := m6) (m := 1) tNums rfl rfl (v := .slice a6 m6 c6) rfl (owns_ext HA.out (ext_lit _ _ _)) rfl (Src.lit _ [.int .i64 x] 1 1 rfl 3 1) (by simp [Value.oneCell']) (by omega) (Nat.le_trans HX.out.size (by simp)) ?_
                        rintro v' w10 t1 t2 t3
                        have xt := (HX.out.tr (ext_lit _ _ _)).then_only (only_grown t2) (fun b hb => (HA.out.lt b hb).1)
                        rw [← HSN.out] at t1
                        clear HA HX
                        have HA := Lib.hid t1
                        have HX := Lib.hid xt
                        clear t1 xt
                        clear t2 t3)
                      go_roundw
                      case rel => exact ⟨q + 1, m6 + 1, by omega, by go_num, HLN2, HA, HX⟩
                      case measure => first | (simp [intOf]; done) | (simp [intOf]; omega)
                  · have i6 : decide ((q:Int) < (nc:Int)) = false := decide_eq_false (by omega)
                    obtain rfl : q = nc := by omega
                    have hal := HA.out
                    have hml := HM6.out
                    rw [List.take_of_length_le (Nat.le_of_eq HNC.out)] at hal hml
                    rw [← hml] at HFL
                    have hfl := HFL.out
                    have f7 : ((m6:Int) != (q:Int) - 1) = false := by simp; omega
                    have y7 := Y.out.tr HX.out
                    have tg7 := Sl.ext TG.out HX.out
                    have ic7 : Ints wr (.slice a6 m6 c6) (CS.filter fun c => c != R0) := by
                      rw [hml] at hal ⊢
                      exact Sl.of_owns hal
                    have c2 := (PB7.out.ext y7).cell
                    have c3 := (SB7.out.ext y7).cell
                    have c7 := (ZB.out.ext HX.out).cell
                    clear Y TG IC ZB HA HX hal hml HM6
                    have Y := Lib.hid y7
                    have TG := Lib.hid tg7
                    have IC := Lib.hid ic7
                    clear y7 tg7 ic7
                    go_wp2_with (first
                      | (go_at_call 41
                         refine (HR2.out _ _ _ Y.out TG.out IC.out).mono ?_
                         rintro e w32 ⟨rfl, hx⟩
                         have y2 := Y.out.tr hx
                         clear c2 c3 c7 Y TG hx IC
                         have Y := Lib.hid y2
                         clear y2)
                      | (go_at_call 10
                         refine (awake_any _).mono ?_
                         rintro e w33 ⟨rfl, hx⟩
                         have y2 := Y.out.tr hx
                         clear Y hx
                         have Y := Lib.hid y2
                         clear y2))
                    go_ret
                    exact ⟨rfl, XE.out.tr Y.out⟩
              · have i5 : decide ((nc:Int) < 2000) = false := decide_eq_false (by omega)
                clear h20
                go_wp2_with (first
                      | (go_at_call 10
                         refine (awake_any _).mono ?_
                         rintro e w33 ⟨rfl, hx⟩
                         have y2 := Y.out.tr hx
                         clear Y hx
                         have Y := Lib.hid y2
                         clear y2))
                go_ret
                exact ⟨rfl, XE.out.tr Y.out⟩
    · have j1 : ((ng:Int) != (nj:Int)) = true := by simp; omega
      · go_wp2_with (first
          | (go_at_call 19
             refine (HCK.out _ (Below.refl _ _)).mono ?_
             rintro e w5 ⟨rfl, hx⟩
             clear c1 c2 c5
             have c1 := (XB.out.ext hx).cell
             have c5 := (GB.out.ext hx).cell
             have x2 := X.out.tr hx
             clear X hx HCK
             have X := Lib.hid x2
             clear x2)
          | (go_at_call 10
             refine (awake_any _).mono ?_
             rintro e w6 ⟨rfl, hx⟩
             have x2 := X.out.tr hx
             clear X hx
             have X := Lib.hid x2
             clear x2))
        go_ret
        exact ⟨rfl, X.out⟩
  · have f1 : (e1 != 0) = true := by simp [h1]
    · go_wp2_with (first
        | (go_at_call 19
           refine (HCK.out _ (Below.refl _ _)).mono ?_
           rintro e w5 ⟨rfl, hx⟩
           clear c1 c2 c5
           have c1 := (XB.out.ext hx).cell
           have c5 := (GB.out.ext hx).cell
           have x2 := X.out.tr hx
           clear X hx HCK
           have X := Lib.hid x2
           clear x2)
        | (go_at_call 10
           refine (awake_any _).mono ?_
           rintro e w6 ⟨rfl, hx⟩
           have x2 := X.out.tr hx
           clear X hx
           have X := Lib.hid x2
           clear x2))
      go_ret
      exact ⟨rfl, X.out⟩
end Go.Proofs.Ytojobdffnnibaaa
