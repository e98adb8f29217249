/- slices.Repeat at a slice of one number. -/
import Derived.Test.YtafnadaahnkcmaaLists
import Derived.Laws.CopyOwn
import Derived.Deep.OwnRows
import Derived.Laws.BitsLemmas
namespace Go.Proofs.Ytafnadaahnkcmaa
open Go.RowKit
set_option linter.unusedVariables false

theorem mul_one (n : Int) (w : World) (hn : 0 ≤ n ∧ n ≤ 1000) :
    Calls Try.prog 60 #[.int .u64 1, .int .u64 n] w fun e w' => e = .returned (.tuple #[.int .u64 0, .int .u64 n]) ∧ w' = w := by
  obtain ⟨n1, n2⟩ := hn
  have b1 : bits .and .u64 n 4294967295 = n := by
    have := bits_mask .u64 64 (by decide) (fun n h1 h2 => by rw [IntKind.wrap_u64]; omega) 32 (by decide) n n1 (by omega)
    simpa using this.trans (by omega)
  have b0 : bits .and .u64 1 4294967295 = 1 := by decide
  have bz : bits .and .u64 0 4294967295 = 0 := by decide
  have dz : n / 4294967296 = 0 := by omega
  have wz : IntKind.u64.wrap 0 = 0 := by decide
  have wn : IntKind.u64.wrap n = n := by rw [IntKind.wrap_u64]; omega
  go_enter Try.func60, Try.ntmps60
  go_wp2
  go_ret2
  exact ⟨rfl, rfl⟩

theorem mulU_one (n : Int) (w : World) (hn : 0 ≤ n ∧ n ≤ 1000) :
    Calls Try.prog 54 #[.int .u64 1, .int .u64 n] w fun e w' => e = .returned (.tuple #[.int .u64 0, .int .u64 n]) ∧ w' = w := by
  go_enter Try.func54, Try.ntmps54
  go_wp2_with (go_at_call 60; refine (mul_one n _ hn).mono ?_; rintro e w' ⟨rfl, rfl⟩)
  go_ret2
  exact ⟨rfl, rfl⟩

/-- The row while it is filled: m numbers are laid. -/
def repL (x : Int) (n m : Nat) : List Value := List.replicate m (.int .i64 x) ++ List.replicate (n - m) (.int .i64 0)
theorem repL_len (x : Int) (n m : Nat) (h : m ≤ n) : (repL x n m).length = n := by simp [repL]; omega
theorem repL_splice (x : Int) (n m k : Nat) (h : m + k ≤ n) : splice (repL x n m) m (List.replicate k (.int .i64 x)) = repL x n (m + k) := by
  unfold splice repL
  rw [List.length_replicate, List.take_append_of_le_length (by simp), List.take_of_length_le (by simp), List.drop_append, List.drop_of_length_le (by simp)]
  rw [List.length_replicate, List.drop_replicate, List.nil_append, ← List.append_assoc, List.replicate_append_replicate]
  congr 2
  omega
theorem repL_get (x : Int) (n m j : Nat) (h : j < m) : (repL x n m)[j]? = some (.int .i64 x) := by
  unfold repL
  rw [List.getElem?_append_left (by simpa using h)]
  simp [h]

theorem made_rep (x : Int) (n : Nat) : madeCells #[.int .i64 0] n = (repL x n 0).toArray := by
  apply Array.ext
  · simp [madeCells, repL]
  · intro i h1 h2
    simp [madeCells, repL, Nat.mod_one]

theorem src_rep {w : World} {g : Nat} {x : Int} {n m k : Nat} {t : TypeId} (hg : w.heap[g]? = some (.cells (repL x n m).toArray t (0, 0))) (hk : k ≤ m) :
    ∀ (j : Nat) (v : Value), (List.replicate k (Value.int .i64 x))[j]? = some v → w.cell? ((⟨g, 0, none⟩ : Addr).add j) = some v := by
  intro j v hj
  obtain ⟨h1, h2⟩ := List.getElem?_eq_some_iff.1 hj
  have h3 : j < k := by simpa using h1
  have h4 : v = .int .i64 x := by rw [← h2]; simp
  have hadd : (⟨g, 0, none⟩ : Addr).add j = ⟨g, j, none⟩ := by unfold Addr.add; split <;> simp_all
  rw [hadd, blk_cell hg j, h4]
  simpa using repL_get x n m j (by omega)
theorem src_one {w : World} {b o : Nat} {x : Int} (h : w.cell? ⟨b, o, none⟩ = some (.int .i64 x)) : ∀ (j : Nat) (v : Value), [Value.int .i64 x][j]? = some v → w.cell? ((⟨b, o, none⟩ : Addr).add j) = some v := by
  intro j v hj
  match j, hj with
  | 0, hj =>
    simp at hj
    subst hj
    exact h
  | j + 1, hj => simp at hj

set_option maxRecDepth 100000 in
set_option maxHeartbeats 4000000 in
theorem repeat_one (x : Int) (n : Nat) (va : Value) (w : World) (ha : Ints w va [x]) (hn : 1 ≤ n ∧ n ≤ 1000) :
    Calls Try.prog 44 #[va, .int .i64 (n : Int)] w fun e w' => ∃ v, e = .returned v ∧ Ints w' v (List.replicate n x) ∧ Ext w w' := by
  obtain ⟨a, c, rfl, Ha⟩ := ha.form
  obtain ⟨n1, n2⟩ := hn
  have m1 : (1:Int) ≤ (n:Int) := by omega
  have m2 : (n:Int) ≤ 1000 := by omega
  have HMU := fun w1 => Lib.hid (mulU_one (n:Int) w1 (by omega))
  obtain ⟨i0, hi0, hp0⟩ := Option.map_eq_some_iff.1 tInts.info
  simp only [Prod.mk.injEq] at hp0
  have HI0 := Lib.hid hi0
  have HP0 := Lib.hid hp0
  clear ha hi0 hp0
  obtain ⟨b1, o1, rfl, hc1⟩ := Ints.cells (xs := [x]) Ha.out (by simp)
  have HC1 := Lib.hid (hc1 0 (by simp))
  clear hc1
  go_enter Try.func44, Try.ntmps44
  go_wp2_with (first
    | (go_at_call 54; refine (HMU _).out.mono ?_; rintro e w' ⟨rfl, rfl⟩)
    | (refine wpList_make_row _ rfl _ _ _ rfl 3 i0 (.int .i64 0) tInts.ht HI0.out HP0.out.1 HP0.out.2.1 rfl .i64 .i64 n rfl rfl (by rw [HP0.out.2.2]; omega) (by omega) ?_
       have hb := heap_alloc_new w' (.cells (madeCells #[.int .i64 0] n) 3)
       rw [made_rep x n] at hb
       have HB := Lib.hid hb
       clear hb)
    | (refine wpList_copy_splice (o := ⟨some 33, _, _, _, _, _⟩) rfl _ _ _ _ rfl 3 tInts.ht (by kernel_rfl) _ _ _ _ _ _ rfl rfl w'.heap.size 0 (repL x n 0) 3 (by rw [made_rep x n]; exact HB.out) [.int .i64 x] (by show 1 = min 1 n; omega) (fun _ => ⟨rfl, ⟨b1, o1, none⟩, rfl, src_one ((ext_lit _ _ _).cellSome HC1.out)⟩) (by rw [repL_len _ _ _ (by omega)]; simp; omega) (by simp [Value.oneCell']) w'.heap.size w' (ext_lit _ _ _) (Nat.le_refl _) ?_
       intro w2 HG2 hb2
       have HX2 := Lib.hid hb2
       clear hb2))
  have I0 : Hid (w2.heap[w'.heap.size]? = some (.cells (repL x n 1).toArray 3 (0, 0))) := by
    have h := repL_splice x n 0 1 (by omega)
    rw [Nat.zero_add] at h
    rw [← h]
    exact HG2.out
  clear HG2
  go_loopw [8] (fun t wr => ∃ m : Nat, 1 ≤ m ∧ m ≤ n ∧ t = .int .i64 m ∧ Hid (wr.heap[w'.heap.size]? = some (.cells (repL x n m).toArray 3 (0, 0))) ∧ Hid (Ext w' wr)) (fun t _ => n - (intOf t).toNat)
  case atStart => exact ⟨1, by omega, by omega, rfl, I0.out, HX2.out⟩
  case round =>
    obtain ⟨m, hm1, hm2, rfl, HG, HX⟩ := hrel
    by_cases hlt : m < n
    · have j1 : (0:Int) ≤ (m:Int) := by omega
      have j2 : (m:Int) < (n:Int) := by omega
      have j3 : (m:Int) ≤ (n:Int) := by omega
      obtain ⟨k, hk⟩ : ∃ k, k = min m (n - m) := ⟨_, rfl⟩
      have hk1 : 1 ≤ k := by omega
      have hk2 : m + k ≤ n := by omega
      have HK := Lib.hid hk
      clear hk
      have hne : ¬ n = m := by omega
      have HGd : Hid (wr.drew.heap[w'.heap.size]? = some (.cells (repL x n m).toArray 3 (0, 0))) := HG.out
      have HXd : Hid (Ext w' wr.drew) := HX.out.drew
      have HSd := Lib.hid (src_rep (k := k) HGd.out (by have := HK.out; omega))
      have HLd := Lib.hid (show m + (List.replicate k (Value.int .i64 x)).length ≤ (repL x n m).length by rw [repL_len _ _ _ (by omega), List.length_replicate]; exact hk2)
      have HOd := Lib.hid (show ∀ v ∈ List.replicate k (Value.int .i64 x), v.oneCell' = true from fun v hv => by rw [(List.mem_replicate.1 hv).2]; rfl)
      have HNd := Lib.hid (show (List.replicate k (Value.int .i64 x)).length = Nat.min m (n - m) by rw [List.length_replicate]; exact HK.out)
      go_wp2
      go_region_held3 (fun _ => True) ((trivial)) ((first | (refine step_copy_splice rfl _ _ _ _ rfl 3 tInts.ht (by kernel_rfl) _ _ _ _ _ _ rfl rfl w'.heap.size m (repL x n m) 3 HGd.out (List.replicate k (.int .i64 x)) HNd.out (fun _ => ⟨by first | rfl | exact if_neg hne, ⟨w'.heap.size, 0, none⟩, rfl, HSd.out⟩) HLd.out HOd.out w'.heap.size w' HXd.out (Nat.le_refl _) ?_; intro w3 HG3 hb3)))
      go_split_ands
      have HG4 : Hid (w3.heap[w'.heap.size]? = some (.cells (repL x n (m + k)).toArray 3 (0, 0))) := by rw [← repL_splice x n m k hk2]; exact HG3.out
      have HX3 := Lib.hid hb3
      have hkl : (List.replicate k (Value.int .i64 x)).length = k := by simp
      clear HG3 hb3
      go_wp2
      go_roundw
      case rel => exact ⟨m + k, by omega, hk2, by rw [i64_eq ((m:Int) + (k:Int)) (by omega)]; go_num, HG4.out, HX3.out⟩
      case measure => rw [i64_eq ((m:Int) + (k:Int)) (by omega)]; simp [intOf]; omega
    · obtain rfl : m = n := by omega
      go_wp2
      go_ret
      refine ⟨_, rfl, ?_, HX.out⟩
      refine ⟨by simp; omega, some ⟨w'.heap.size, 0, none⟩, m, by simp, fun h => (by cases h), fun _ => ⟨w'.heap.size, 0, rfl, fun i u hu => ?_⟩⟩
      have h1 := src_rep HG.out (Nat.le_refl m) i u (by simpa using hu)
      have hadd : (⟨w'.heap.size, 0, none⟩ : Addr).add i = ⟨w'.heap.size, 0 + i, none⟩ := by unfold Addr.add; split <;> simp_all
      rwa [hadd] at h1
end Go.Proofs.Ytafnadaahnkcmaa
