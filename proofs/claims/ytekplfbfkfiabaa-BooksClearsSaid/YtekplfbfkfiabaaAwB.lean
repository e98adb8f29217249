/- The chapter's examples, reckoned; what each call of awake does. -/
import Derived.Test.YtekplfbfkfiabaaClrC
import Derived.Test.YtekplfbfkfiabaaBkShow
import Derived.Test.YtekplfbfkfiabaaBkShare
import Derived.Test.YtekplfbfkfiabaaBkPlCo
namespace Go.Proofs.Ytekplfbfkfiabaa
open Go.RowKit
set_option linter.unusedVariables false

def axA : List AccD := [⟨1, false⟩, ⟨1, true⟩]
def ax0 : LedD := newD 9 axA
def axE : EntD := ⟨0, 1, 100, 5⟩
def ax1 : LedD := postD ax0 axE
def axL : List Int := [-5, 3, 2, -4, 4]
def axP : List PayD := [⟨0, 1, 3⟩, ⟨0, 2, 2⟩, ⟨3, 4, 4⟩]
theorem ax_check : checkE axA = 0 := by decide +kernel
theorem ax_ok0 : LedOk ax0 := LedOk.new (by decide) ax_check
theorem ax_post : postErr ax0 axE = 0 := by decide +kernel
theorem ax_ok1 : LedOk ax1 := ax_ok0.post ax_post
theorem ax_b1 : balV ax1 1 4 = 0 ∧ balErr ax1 1 4 = 0 := by decide +kernel
theorem ax_b2 : balV ax1 1 5 = 100 ∧ balErr ax1 1 5 = 0 := by decide +kernel
theorem ax_b3 : balV ax1 0 5 = -100 ∧ balErr ax1 0 5 = 0 := by decide +kernel
theorem ax_close : closeErr ax1 6 [97] = 0 := by decide +kernel
theorem ax_close2 : (closeF 6 ax1 [] (closeP ax1 [97])).2.1 = [-3] := by decide +kernel
def ax2 : LedD := { (closeF 6 ax1 [] (closeP ax1 [97])).1 with closed := 6 }
theorem ax_ok2 : LedOk ax2 := (closeF_ok 6 _ ax1 [] ax_ok1).1.closed (by decide)
theorem ax_post2 : postErr ax2 ⟨0, 1, 100, 6⟩ = 12 := by decide +kernel
theorem ax_s1 : shareE 100 [1, 1, 1] = 0 ∧ shareV 100 [1, 1, 1] = [34, 33, 33] := by decide +kernel
theorem ax_s2 : shareE 10 [1, 3, 0] = 0 ∧ shareV 10 [1, 3, 0] = [3, 7, 0] := by decide +kernel
theorem ax_g : groupsE axL = 0 := by decide +kernel
theorem ax_g2 : groupsP axL = some [0, 0, 0, 1, 1] := by decide +kernel
theorem ax_c : clearP axL [0, 0, 0, 1, 1] = some axP := by decide +kernel
theorem ax_i64 : ∀ u ∈ axL, I64 u := by decide +kernel

/-- Numbers that are written out. -/
theorem ints_lit {w : World} {b : Nat} {xs : List Int} {t : TypeId} {n : Nat} (h : Blk w b (iA xs) t) (hn : xs.length = n) (hl : n ≤ 1000000) : Ints w (.slice (some ⟨b, 0, none⟩) n n) xs := h.ints hn hl

theorem LSt.mono {w : World} {B B2 lb : Nat} {d : LedD} {m : LMem} (h : LSt w B lb d m) (hb : B2 ≤ B) : LSt w B2 lb d m := ⟨Nat.le_trans hb h.blt, h.led, h.acc, h.row, owns_weak h.ents hb, h.nab, h.nva, h.nve⟩
theorem ax_c1 (W : World) (va : Value) (ha : AccIn W va axA) : Calls Try.prog 40 #[.int .u64 9, va] W fun e w' =>
    ∃ lb m, e = .returned (.tuple #[.pointer (some ⟨lb, 0, none⟩), .int .i64 0]) ∧ LSt w' W.heap.size lb ax0 m ∧ Ext W w' :=
  (new_any 9 axA va W ha).mono fun e w' h => by
    rcases h with ⟨h1, _⟩ | ⟨_, lb, m, h2, h3, _, _, _, h4⟩
    · exact absurd ax_check h1
    · exact ⟨lb, m, h2, h3, h4⟩
theorem ax_c2 (W : World) (B lb : Nat) (m : LMem) (h : LSt W B lb ax0 m) (hB : B ≤ W.heap.size) : Calls Try.prog 31 #[.pointer (some ⟨lb, 0, none⟩), .agg #[.int .i64 0, .int .i64 1, .int .i64 100, .int .i64 5]] W fun e w' =>
    e = .returned (.int .i64 0) ∧ ∃ m', LSt w' B lb ax1 m' ∧ ∀ w0, Ext w0 W → B = w0.heap.size → Ext w0 w' :=
  (post_any B lb ax0 m axE W h ax_ok0 hB (by unfold EntD.fits; decide)).mono fun e w' hp => by
    obtain ⟨h1, v', h2, h3, h4⟩ := hp.good ax_post
    exact ⟨h1, _, h2, fun w0 hx hb => hx.then_only h4 (fun q hq => by
      rcases hq with hq | hq
      · rw [hq, ← hb]; exact h.blt
      · rw [← hb]; exact (h.ents.lt q hq).1)⟩
theorem ax_c3 (W : World) (B lb : Nat) (m : LMem) (i day v : Int) (h : LSt W B lb ax1 m) (hv : balV ax1 i day = v ∧ balErr ax1 i day = 0) : Calls Try.prog 28 #[.pointer (some ⟨lb, 0, none⟩), .int .i64 i, .int .i64 day] W fun e w' =>
    e = .returned (.tuple #[.int .i64 v, .int .i64 0]) ∧ Ext W w' :=
  (Balance_any B lb ax1 m i day W h ax_ok1).mono fun e w' hp => ⟨by rw [hp.1, hv.1, hv.2], hp.2⟩
theorem ax_c4 (W : World) (B lb : Nat) (m : LMem) (vc : Value) (h : LSt W B lb ax1 m) (hB : B ≤ W.heap.size) (hc : Ints W vc [97]) (nvc : ∀ b, vc.ownBlock = some b → b ≠ lb ∧ m.ve.ownBlock ≠ some b ∧ b < W.heap.size) : Calls Try.prog 29 #[.pointer (some ⟨lb, 0, none⟩), .int .i64 6, vc] W fun e w' =>
    ∃ v m', e = .returned (.tuple #[v, .int .i64 0]) ∧ Ints w' v [-3] ∧ LSt w' B lb ax2 m' ∧ ∀ w0, Ext w0 W → B = w0.heap.size → Ext w0 w' :=
  (close_any B lb ax1 m 6 [97] vc W h ax_ok1 hB hc (by decide) (by decide) nvc).mono fun e w' hp => by
    obtain ⟨v, m', h1, h2, _, _, _, h3⟩ := hp
    rw [ax_close] at h1 h2
    rcases h2 with ⟨h2, _⟩ | ⟨_, h4, h5⟩
    · exact absurd rfl h2
    · rw [ax_close2] at h4
      exact ⟨v, m', h1, Sl.of_owns h4, h5, fun w0 hx hb => hx.then_only h3 (fun q hq => by
        rcases hq with hq | hq
        · rw [hq, ← hb]; exact h.blt
        · rw [← hb]; exact (h.ents.lt q hq).1)⟩
theorem ax_c5 (W : World) (B lb : Nat) (m : LMem) (h : LSt W B lb ax2 m) (hB : B ≤ W.heap.size) : Calls Try.prog 31 #[.pointer (some ⟨lb, 0, none⟩), .agg #[.int .i64 0, .int .i64 1, .int .i64 100, .int .i64 6]] W fun e w' =>
    e = .returned (.int .i64 12) ∧ Ext W w' :=
  (post_any B lb ax2 m ⟨0, 1, 100, 6⟩ W h ax_ok2 hB (by unfold EntD.fits; decide)).mono fun e w' hp => by
    obtain ⟨h1, h2⟩ := hp.bad (by rw [ax_post2]; decide)
    exact ⟨by rw [h1, ax_post2], h2⟩
theorem ax_c6 (W : World) (vw : Value) (t : Int) (ws os : List Int) (hw : Ints W vw ws) (hs : shareE t ws = 0 ∧ shareV t ws = os) (hu : ∀ u ∈ ws, I64 u) (ht : I64 t) (hl : ws.length < 20) : Calls Try.prog 16 #[.int .i64 t, vw] W fun e w' =>
    ∃ v, e = .returned (.tuple #[v, .int .i64 0]) ∧ Ints w' v os ∧ Ext W w' :=
  (share_any t ws vw W hw ht hu (by omega)).mono fun e w' ⟨v, h1, h2, h3⟩ => ⟨v, by rw [h1, hs.1], by rw [← hs.2]; exact h3, h2⟩
theorem ax_c7 (W : World) (vl : Value) (hl : Ints W vl axL) : Calls Try.prog 19 #[vl] W fun e w' =>
    ∃ v, e = .returned (.tuple #[v, .int .i64 0]) ∧ Ints w' v [0, 0, 0, 1, 1] ∧ Ext W w' :=
  (groups_any axL vl W hl ax_i64 (by decide) (by decide) (fun _ => by rw [ax_g2]; rfl)).mono fun e w' ⟨v, h1, h2, h3⟩ => by
    rw [ax_g] at h1 h3
    rcases h3 with ⟨h3, _⟩ | ⟨_, g, o, h4, h5, h6, h7, h8⟩
    · exact absurd rfl h3
    · rw [ax_g2] at h6; cases h6
      exact ⟨v, h1, by rw [h4]; exact h8.ints rfl (by decide), h2⟩
theorem ax_c8 (W : World) (vl : Value) (hl : Ints W vl axL) : Calls Try.prog 21 #[vl] W fun e w' =>
    ∃ g c, e = .returned (.tuple #[.slice (some ⟨g, 0, none⟩) 3 c, .int .i64 0]) ∧ w'.cell? ⟨g, 6, none⟩ = some (.int .i64 3) ∧ w'.cell? ⟨g, 7, none⟩ = some (.int .i64 4) ∧ w'.cell? ⟨g, 8, none⟩ = some (.int .i64 4) ∧ Ext W w' :=
  (clear_any axL vl W hl ax_i64 (by decide) (by decide) (fun _ => ⟨_, _, ax_g2, ax_c⟩)).mono fun e w' ⟨v, h1, h2, h3⟩ => by
    rw [ax_g] at h1 h3
    rcases h3 with ⟨h3, _⟩ | ⟨_, G, out, h4, h5, _, h6⟩
    · exact absurd rfl h3
    · rw [ax_g2] at h4; cases h4
      rw [ax_c] at h5; cases h5
      obtain ⟨g, c, rfl⟩ := row_pos h6 (by decide)
      have hc := h6.cells rfl
      refine ⟨g, c, h1, ?_, ?_, ?_, h2⟩
      · have := hc 6 (.int .i64 3) rfl; rwa [addr0] at this
      · have := hc 7 (.int .i64 4) rfl; rwa [addr0] at this
      · have := hc 8 (.int .i64 4) rfl; rwa [addr0] at this
end Go.Proofs.Ytekplfbfkfiabaa
