import Derived.Test.Qxb6500293aGreatRRT9
namespace Go.Proofs.Qxb6500293aGreatRR
open Go.RowKit
open Ieee (double)
set_option linter.unusedVariables false
set_option linter.unusedSimpArgs false

theorem grown_of_below {w w' : World} (h : Below w.heap.size w w') (b : Option Nat) : w.grownBy w' b := ⟨h.os, h.tape, h.output, h.size, fun k hk _ => h.block k hk⟩
theorem grown_trans {x y z : World} {b : Option Nat} (h : x.grownBy y b) (k : y.grownBy z b) : x.grownBy z b := ⟨k.os.trans h.os, k.tape.trans h.tape, k.output.trans h.output, Nat.le_trans h.size k.size, fun i hi hn => (k.block i (Nat.lt_of_lt_of_le hi h.size) hn).trans (h.block i hi hn)⟩
/-- What index does to one map. -/
def IdxEnd (kt : TypeId) (b n : Nat) (f : Lit → Option Nat) (w : World) (en : Ending) (w' : World) : Prop := en = .returned (.tuple #[]) ∧ MapAt kt w' b n f ∧ w.grownBy w' (some b)

set_option maxRecDepth 8000 in
set_option maxHeartbeats 3200000 in
theorem index_num (A h b n p : Nat) (f : Lit → Option Nat) (k : V) (w : World) (c2 : w.cell? ⟨A, h * 6 + 2, none⟩ = some (.map (some b))) (lA : A < w.heap.size) (hm : MapAt 31 w b n f) (hk : k.T = 2) (hN : k.N < 18446744073709551616) (hp : p < 2147483648) (hn : n ≤ 64) (hf : f (.int .u64 k.N) = none) :
    Calls Tryz.prog 73 #[.pointer (some ⟨A, h * 6, none⟩), valV k, .int .i32 p] w (IdxEnd 31 b (n + 1) (setK f (.int .u64 k.N) (some p)) w) := by
  have hne : ¬ A = w.heap.size := by omega
  have hkey := Maps.keyOf_int_mk Tryz.underlying31 (u64_wf hN)
  obtain ⟨w', hrun, hm', hg⟩ := (hm.block (w' := (w.alloc (.cells #[.int .i64 2, .int .u64 k.N, .string ⟨k.S.toArray⟩] 33)).drew) (Below.heap_alloc _ _ _ hm.lt)).store nums_keyed Tryz.underlying102 (by unfold maxLen; omega) hkey trivial hf hp
  have HE : Hid (MapAt 31 w' b (n + 1) (setK f (.int .u64 k.N) (some p)) ∧ w.grownBy w' (some b)) := ⟨hm', grown_trans (grown_of_below (below_one w _).drew _) hg⟩
  obtain ⟨T, N, S⟩ := k
  simp only at *
  subst hk
  rw [valV_mk]
  clear hm hm' hg hkey hf
  go_enter Tryz.func73, Tryz.ntmps73
  go_wp2_with fail
  go_region
  all_goals
    go_wp2
    go_end0
    exact ⟨rfl, HE.out⟩
set_option maxRecDepth 8000 in
set_option maxHeartbeats 3200000 in
theorem index_str (A h b n p : Nat) (f : Lit → Option Nat) (k : V) (w : World) (c3 : w.cell? ⟨A, h * 6 + 3, none⟩ = some (.map (some b))) (lA : A < w.heap.size) (hm : MapAt 9 w b n f) (hk : k.T = 3) (hS : k.S.length ≤ 40) (hp : p < 2147483648) (hn : n ≤ 64) (hf : f (.string k.S) = none) :
    Calls Tryz.prog 73 #[.pointer (some ⟨A, h * 6, none⟩), valV k, .int .i32 p] w (IdxEnd 9 b (n + 1) (setK f (.string k.S) (some p)) w) := by
  have hne : ¬ A = w.heap.size := by omega
  have hkey := WideMaps.keyOf_string_mk Tryz.underlying9 (s := ⟨k.S.toArray⟩) (by show k.S.toArray.size ≤ _; simp [maxLen]; omega)
  obtain ⟨w', hrun, hm', hg⟩ := (hm.block (w' := (w.alloc (.cells #[.int .i64 3, .int .u64 k.N, .string ⟨k.S.toArray⟩] 33)).drew) (Below.heap_alloc _ _ _ hm.lt)).store strs_keyed Tryz.underlying103 (by unfold maxLen; omega) hkey trivial (by simpa using hf) hp
  have HE : Hid (MapAt 9 w' b (n + 1) (setK f (.string k.S) (some p)) ∧ w.grownBy w' (some b)) := ⟨by simpa using hm', grown_trans (grown_of_below (below_one w _).drew _) hg⟩
  obtain ⟨T, N, S⟩ := k
  simp only at *
  subst hk
  rw [valV_mk]
  clear hm hm' hg hkey hf
  go_enter Tryz.func73, Tryz.ntmps73
  go_wp2_with fail
  go_region
  all_goals
    go_wp2
    go_end0
    exact ⟨rfl, HE.out⟩
set_option maxRecDepth 8000 in
set_option maxHeartbeats 3200000 in
theorem index_ref (A h b n p : Nat) (f : Lit → Option Nat) (k : V) (w : World) (c4 : w.cell? ⟨A, h * 6 + 4, none⟩ = some (.map (some b))) (lA : A < w.heap.size) (hm : MapAt 31 w b n f) (hw : wfB k = true) (h2 : k.T ≠ 2) (h3 : k.T ≠ 3) (hp : p < 2147483648) (hn : n ≤ 64) (hf : f (.int .u64 (packN k)) = none) :
    Calls Tryz.prog 73 #[.pointer (some ⟨A, h * 6, none⟩), valV k, .int .i32 p] w (IdxEnd 31 b (n + 1) (setK f (.int .u64 (packN k)) (some p)) w) := by
  have hne : ¬ A = w.heap.size := by omega
  have hkey := Maps.keyOf_int_mk Tryz.underlying31 (u64_wf (pack_lt hw h2 h3))
  have HST : Hid (∀ W, Below w.heap.size w W → ∃ w', (Instr.mapUpdate 102 (.map (some b)) (.int .u64 (packN k)) (.int .i32 (p : Int))).run Tryz.prog W = .ok () w' ∧ MapAt 31 w' b (n + 1) (setK f (.int .u64 (packN k)) (some p)) ∧ W.grownBy w' (some b)) :=
    fun W hW => (hm.block (hW.block _ hm.lt)).store nums_keyed Tryz.underlying102 (by unfold maxLen; omega) hkey trivial hf hp
  have hpk := fun w => packK_any k w hw h2 h3
  generalize packN k = PN at *
  obtain ⟨T, N, S⟩ := k
  simp only [valV_mk] at *
  have b2 : (T == 2) = false := by simpa using h2
  have b3 : (T == 3) = false := by simpa using h3
  clear hm hkey hf hw h2 h3
  go_enter Tryz.func73, Tryz.ntmps73
  go_wp2_with fail
  go_region_with (go_at_call 82; refine (hpk _).mono ?_; rintro e w1 ⟨rfl, hb⟩; have hB := below_two (below_one w _).drew hb; obtain ⟨w', hrun, hm', hg⟩ := HST.out w1 hB; have d4 := (hB.cell (p := ⟨A, h * 6 + 4, none⟩) lA).trans c4; have HE : Hid (MapAt 31 w' b (n + 1) (setK f (.int .u64 PN) (some p)) ∧ w.grownBy w' (some b)) := ⟨hm', grown_trans (grown_of_below hB _) hg⟩; clear hB hb hm' hg)
  all_goals
    go_wp2
    go_end0
    exact ⟨rfl, HE.out⟩
end Go.Proofs.Qxb6500293aGreatRR
