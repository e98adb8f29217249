/- stocks: the numbers of the stocks. -/
import Derived.Test.YtekplfbfkfiabaaBkAudit
import Derived.Test.YtekplfbfkfiabaaBkInts
import Derived.Test.YtekplfbfkfiabaaBkKit
namespace Go.Proofs.Ytekplfbfkfiabaa
open Go.RowKit
set_option linter.unusedVariables false
set_option linter.unusedSimpArgs false

def stkN (l : List AccD) (k : Nat) : List Nat := (List.range k).filter fun i => (l.getD i default).stock
theorem stkN_succ (l : List AccD) (k : Nat) : stkN l (k + 1) = stkN l k ++ if (l.getD k default).stock then [k] else [] := by
  unfold stkN
  rw [List.range_succ, List.filter_append]
  congr 1
  rw [List.filter_cons]; split <;> rfl
theorem stkN_mem {l : List AccD} {k i : Nat} (h : i ∈ stkN l k) : i < k ∧ (l.getD i default).stock = true := by
  unfold stkN at h
  rw [List.mem_filter, List.mem_range] at h
  exact h
def stkV (l : List Nat) : List Value := l.map fun i : Nat => Value.int .i64 (i : Int)
theorem stkN_len (l : List AccD) (k : Nat) : (stkN l k).length ≤ k := by
  unfold stkN
  have := List.length_filter_le (fun i => (l.getD i default).stock) (List.range k)
  rw [List.length_range] at this
  exact this

set_option maxRecDepth 100000 in
set_option maxHeartbeats 2000000 in
theorem stocks_any (l : List AccD) (va : Value) (ab : Nat) (w : World) (hb : w.cell? ⟨ab, 0, none⟩ = some va) (ha : AccIn w va l) (hl : l.length ≤ 1000) :
    Calls Try.prog 69 #[.pointer (some ⟨ab, 0, none⟩)] w fun e w' => ∃ v, e = .returned v ∧ Ext w w' ∧ w'.ownsRow w.heap.size 3 1 v (stkN l l.length).length (stkV (stkN l l.length)) := by
  obtain ⟨a, c, rfl, HS⟩ := ha.form
  clear ha
  go_enter Try.func69, Try.ntmps69
  go_wp2
  go_loopw [3, 11] (fun v t wr => ∃ k : Nat, k ≤ l.length ∧ t = .int .i64 k ∧ Hid (wr.ownsRow w.heap.size 3 1 v (stkN l k).length (stkV (stkN l k))) ∧ Hid (Ext w wr)) (fun _ t _ => l.length - (intOf t).toNat)
  case atStart => exact ⟨0, Nat.zero_le _, rfl, World.ownsRow_nil _ _ _ _, Below.refl _ _⟩
  case round =>
    obtain ⟨k, hk, rfl, HV, HX⟩ := hrel
    obtain ⟨a1, c1, rfl⟩ := row_form HV.out
    by_cases hlt : k < l.length
    · obtain ⟨b, o, rfl, hc⟩ := HS.out.cells (by omega)
      have e0 := HX.out.cellSome (hc k hlt).1
      have e1 := HX.out.cellSome (hc k hlt).2
      have eb := HX.out.cellSome hb
      have hss := stkN_succ l k
      have hlen := stkN_len l k
      have hg : l.getD k default = l[k] := by simp [List.getD, hlt]
      rw [hg] at hss
      clear hg
      generalize l[k] = x at *
      obtain ⟨y, s⟩ := x
      dsimp only at e0 e1 hss
      have j1 : (0:Int) ≤ (k:Int) := by omega
      have j2 : (k:Int) < (l.length:Int) := by omega
      clear hc
      go_upto_region 5 with (first
        | (with_reducible refine wpList_allocA (t := 85) rfl rfl Try.zeroValue85 ?_
           rintro pb w3 hb3 hx3 hl3
           replace e0 := hx3.cellSome e0
           replace e1 := hx3.cellSome e1
           replace eb := hx3.cellSome eb
           have lp : w.heap.size ≤ pb := Nat.le_trans HX.out.size hl3
           have np : ∀ q, (Value.slice a1 (stkN l k).length c1).ownBlock = some q → q ≠ pb := fun q hq => by
             have := (HV.out.lt q hq).2
             omega
           have hv3 := owns_ext HV.out hx3
           clear HV
           replace HX := Lib.hid (HX.out.ext hx3)
           have PB := Lib.hid hb3
           have LP := Lib.hid lp
           have NP := Lib.hid np
           have HV := Lib.hid hv3
           clear hb3 lp np hv3
           clear hx3 hl3)
        | (with_reducible refine wpList_storeK (cells := #[.int .i64 y, .bool s]) rfl rfl PB.out ?_ ?_ ?_ ?_ ?_ ?_
           · rfl
           · rfl
           · kernel_rfl
           · rfl
           · simp [Value.oneCell']
           rintro w4 hb4 ho4
           have hx4 := HX.out.then_only ho4 (fun k (e : k = pb) => by rw [e]; exact LP.out)
           have hv4 := owns_only HV.out ho4 (fun q hq => NP.out q hq)
           have p1 := hb4.cell 1
           clear HX PB e0 e1 eb HV
           have HX := Lib.hid hx4
           have HV := Lib.hid hv4
           clear hx4 hv4
           clear hb4 ho4))
      cases s
      · rw [if_neg (by decide), List.append_nil] at hss
        rw [← hss] at HV
        have HSS := Lib.hid hss
        clear hss
        go_wp2
        go_roundw
        case rel => exact ⟨k + 1, by omega, by go_num, by rw [HSS.out] at HV ⊢; exact HV, HX⟩
        case measure => simp [intOf]; omega
      · rw [if_pos rfl] at hss
        have HSS := Lib.hid hss
        clear hss
        go_wp2_with (
          at_builtin
          refine wpList_app tInts rfl rfl rfl (owns_ext HV.out (ext_lit _ _ _)) rfl (Src.lit _ [.int .i64 k] 1 1 rfl 3 1) (by simp [Value.oneCell']) (by omega) (Nat.le_trans HX.out.size (by simp)) ?_
          rintro v' w1 h1 h2 h3
          have hx1 := ext_grown (HX.out.tr (ext_lit _ _ _)) (owns_ext HV.out (ext_lit _ _ _)) h2
          have H1 := Lib.hid h1
          have HX1 := Lib.hid hx1
          clear h1 hx1
          clear h2 h3)
        go_roundw
        case rel => exact ⟨k + 1, by omega, by go_num, Lib.hid (by rw [HSS.out]; unfold stkV; rw [List.length_append, List.map_append]; exact H1.out), HX1⟩
        case measure => simp [intOf]; omega
    · obtain rfl : k = l.length := by omega
      clear hlt
      go_wp2
      go_ret
      exact ⟨_, rfl, HX.out, HV.out⟩
end Go.Proofs.Ytekplfbfkfiabaa
