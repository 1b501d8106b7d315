/-
  THE LAW's SMALL FUNCTIONS: Turn 5, Told 28, Grown 27, fit 38.
-/
import Derived.Test.Qxb6500293aGreatRRX19
namespace Go.Proofs.Qxb6500293aGreatRR
open Go.RowKit
open Ieee (double)
set_option linter.unusedVariables false
set_option linter.unusedSimpArgs false

theorem alloc_at (w : World) (o : Obj) (i : Nat) : (w.alloc o).heap[i]? = if i = w.heap.size then some o else w.heap[i]? := by
  show (w.heap.push o)[i]? = _
  rw [Array.getElem?_push]
theorem cells5 {w : World} {b : Nat} {x0 x1 x2 x3 x4 : Value} {ty : TypeId} (h : w.heap[b]? = some (.cells #[x0, x1, x2, x3, x4] ty)) : w.cell? ⟨b, 0, none⟩ = some x0 ∧ w.cell? ⟨b, 1, none⟩ = some x1 ∧ w.cell? ⟨b, 2, none⟩ = some x2 ∧ w.cell? ⟨b, 3, none⟩ = some x3 ∧ w.cell? ⟨b, 4, none⟩ = some x4 ∧ ∀ k, w.frozen? ⟨b, k, none⟩ = false := by
  simp [World.cell?, World.frozen?, h]
theorem and_low63 (x : Nat) (hx : x < 18446744073709551616) : bits .and .u64 (x : Int) 9223372036854775807 = ((x % 2 ^ 63 : Nat) : Int) := by
  rw [u64_and (x : Int) 9223372036854775807 (by omega) (by omega) (by omega) (by omega)]
  show ((x &&& 9223372036854775807 : Nat) : Int) = _
  rw [show (9223372036854775807 : Nat) = 2 ^ 63 - 1 from rfl, Nat.and_two_pow_sub_one_eq_mod]
def regV (a b : V) : Value := .agg #[.int .i64 a.T, .int .u64 (a.N : Int), .string ⟨a.S.toArray⟩, .int .i64 b.T, .int .u64 (b.N : Int), .string ⟨b.S.toArray⟩]
/-- Turn. -/
def turnP (a b : V) (K A B : Int) (S : List UInt8) : V × V := (if K = 1 then valOf A B S else a, if K = 2 then valOf A B S else b)
set_option maxRecDepth 8000 in
set_option maxHeartbeats 1000000 in
theorem turnR_any (a b : V) (K A B C : Int) (S T : List UInt8) (w : World) (hB : I64 B) :
    Calls Tryz.prog 5 #[regV a b, opV K A B C S T] w fun e w' => e = .returned (regV (turnP a b K A B S).1 (turnP a b K A B S).2) ∧ Below w.heap.size w w' := by
  obtain ⟨aT, aN, aS⟩ := a
  obtain ⟨bT, bN, bS⟩ := b
  have hu : IntKind.u64.wrap B = ((u64N B : Nat) : Int) := by
    unfold u64N
    have : (0 : Int) ≤ B % 18446744073709551616 := Int.emod_nonneg _ (by decide)
    rw [Int.toNat_of_nonneg this]
    rfl
  unfold turnP valOf regV
  rw [opV_mk]
  simp only
  generalize u64N B = uB at *
  by_cases k1 : K = 1
  · subst k1
    go_enter Tryz.func5, Tryz.ntmps5
    go_wp2_with fail
    refine bodyPost_ret (v := .agg #[.int .i64 A, .int .u64 (uB : Int), .string ⟨S.toArray⟩, .int .i64 bT, .int .u64 (bN : Int), .string ⟨bS.toArray⟩]) (by simp [results, go_sem]) rfl ?_
    refine ⟨by simp [], below_two (below_two (below_one _ _) (below_one _ _)) (below_one _ _)⟩
  have b1 : (K == 1) = false := by simpa using k1
  by_cases k2 : K = 2
  · subst k2
    go_enter Tryz.func5, Tryz.ntmps5
    go_wp2_with fail
    refine bodyPost_ret (v := .agg #[.int .i64 aT, .int .u64 (aN : Int), .string ⟨aS.toArray⟩, .int .i64 A, .int .u64 (uB : Int), .string ⟨S.toArray⟩]) (by simp [results, go_sem]) rfl ?_
    refine ⟨by simp [], below_two (below_two (below_one _ _) (below_one _ _)) (below_one _ _)⟩
  · have b2 : (K == 2) = false := by simpa using k2
    go_enter Tryz.func5, Tryz.ntmps5
    go_wp2_with fail
    refine bodyPost_ret (v := .agg #[.int .i64 aT, .int .u64 (aN : Int), .string ⟨aS.toArray⟩, .int .i64 bT, .int .u64 (bN : Int), .string ⟨bS.toArray⟩]) (by simp [results, go_sem]) rfl ?_
    refine ⟨by simp [k1, k2], below_two (below_two (below_one _ _) (below_one _ _)) (below_one _ _)⟩
/-- Told. -/
def answ (E N M : Int) (S T : List UInt8) : Value := .agg #[.int .i64 E, .int .i64 N, .int .i64 M, .string ⟨S.toArray⟩, .string ⟨T.toArray⟩]
def toldP (e : Ev) : Value := answ e.E e.K e.h (showV e.v ++ [44] ++ showV e.w) []
set_option maxRecDepth 8000 in
set_option maxHeartbeats 1000000 in
theorem told_any (e : Ev) (w : World) (h1 : wfB e.v = true ∧ e.v.N < 18446744073709551616) (h2 : wfB e.w = true ∧ e.w.N < 18446744073709551616) :
    Calls Tryz.prog 28 #[evV e] w fun en w' => en = .returned (toldP e) ∧ Below w.heap.size w w' := by
  have HA := fun w => showVal_any e.v w h1.1 h1.2
  have HB := fun w => showVal_any e.w w h2.1 h2.2
  have l1 := showV_len h1.1 h1.2
  have l2 := showV_len h2.1 h2.2
  obtain ⟨K, h, E, ⟨vT, vN, vS⟩, ⟨wT, wN, wS⟩⟩ := e
  unfold toldP answ evV
  simp only [valV_mk] at *
  generalize showV ⟨vT, vN, vS⟩ = z1 at *
  generalize showV ⟨wT, wN, wS⟩ = z2 at *
  clear h1 h2
  go_enter Tryz.func28, Tryz.ntmps28
  go_wp2_with fail
  refine (HA _).mono ?_; rintro e w1 ⟨rfl, hb1⟩
  have e0 := (hb1.block w.heap.size (by simp only [World.size_alloc]; omega))
  have e1 := (hb1.block (w.heap.size + 1) (by simp only [World.size_alloc]; omega))
  simp only [alloc_at, World.size_alloc] at e0 e1
  rw [if_neg (show ¬ w.heap.size = w.heap.size + 1 by omega), if_pos trivial] at e0
  rw [if_pos trivial] at e1
  have HB1 : Hid (Below w.heap.size w w1) := below_two (below_two (below_one _ _) (below_one _ _)) hb1
  obtain ⟨c0, c1, c2, c3, c4, c5, c6, c7, c8, cz⟩ := cells9 e0
  have l1 : w.heap.size < w1.heap.size := heap_lt e0
  have l2 : w.heap.size + 1 < w1.heap.size := heap_lt e1
  clear hb1
  go_wp2_with fail
  refine (HB _).mono ?_; rintro e w2 ⟨rfl, hb2⟩
  have e0 := (hb2.block w.heap.size l1).trans e0
  have e1 := (hb2.block (w.heap.size + 1) l2).trans e1
  obtain ⟨c0, c1, c2, c3, c4, c5, c6, c7, c8, cz⟩ := cells9 e0
  have HB2 : Hid (Below w.heap.size w w2) := below_two HB1.out hb2
  have l1 : w.heap.size < w2.heap.size := heap_lt e0
  have l2 : w.heap.size + 1 < w2.heap.size := heap_lt e1
  obtain ⟨d0, d1, d2, d3, d4, dz⟩ := cells5 e1
  clear hb2 c3 c4 c5 c6 c7 c8
  go_wp2_with fail
  refine bodyPost_ret (v := .agg #[.int .i64 E, i64 K, i64 h, .string ⟨(z1 ++ [44] ++ z2).toArray⟩, .string ⟨#[]⟩]) (by simp [results, go_sem, d0, d1, d2, d3, d4, str_append]) rfl ?_
  refine ⟨by simp, ?_⟩
  repeat (first | refine below_set0 ?_ _ _ | refine Below.setCell ?_ (by show _ ≤ _ + 1; omega) _)
  exact HB2.out
/-- Grown. -/
theorem grown_nil (w : World) : Calls Tryz.prog 27 #[.string ⟨#[]⟩, .string ⟨#[]⟩] w fun e w' => e = .returned (.bool true) ∧ w' = w := by
  go_enter Tryz.func27, Tryz.ntmps27
  go_wp2
  go_ret
  exact ⟨rfl, rfl⟩
theorem grown_line (was now : List UInt8) (w : World) (h1 : ∃ l, now = was ++ l) (h2 : now.length ≤ 200) (h3 : ∃ l, now = l ++ [10]) :
    Calls Tryz.prog 27 #[.string ⟨was.toArray⟩, .string ⟨now.toArray⟩] w fun e w' => e = .returned (.bool true) ∧ w' = w := by
  have hl : was.length ≤ now.length := by obtain ⟨l, rfl⟩ := h1; simp
  have hp : 1 ≤ now.length := by obtain ⟨l, rfl⟩ := h3; simp
  have hx : (!(({ data := now.toArray } : ByteArray).extract 0 was.length).toList == was) = false := by
    obtain ⟨l, rfl⟩ := h1
    have e : (({ data := (was ++ l).toArray } : ByteArray).extract 0 was.length).toList = was := by
      simp [ByteArray.toList_eq]
    rw [e]; simp
  have hlast : ∀ h, (({ data := now.toArray } : ByteArray)[now.length - 1]'h).toNat = 10 := by
    obtain ⟨l, rfl⟩ := h3
    intro h
    simp [ByteArray.getElem_eq_getElem_data]
  have hne : now.isEmpty = false := by cases now; simp at hp; rfl
  have d1 : decide ((now.length : Int) < (was.length : Int)) = false := decide_eq_false (by omega)
  have d2 : decide ((200 : Int) < (now.length : Int)) = false := decide_eq_false (by omega)
  have b1 : (1 : Int) ≤ (now.length : Int) ∧ (now.length : Int) - 1 < (now.length : Int) := ⟨by omega, by omega⟩
  clear h1 h3
  go_enter Tryz.func27, Tryz.ntmps27
  go_wp2
  go_ret
  exact ⟨rfl, rfl⟩
/-- fit. -/
def fitP (v : V) : Bool := wfB v && (if v.T = 2 then decide (¬ 2047 * 2 ^ 52 < v.N % 2 ^ 63 ∨ v.N = nanBits) else if v.T = 4 then decide (v.N < 1) else if v.T = 5 ∨ v.T = 7 then decide (v.N < 2) else true)
set_option maxRecDepth 8000 in
set_option maxHeartbeats 1000000 in
theorem fit_any (v : V) (w : World) (hv : v.Ok) : Calls Tryz.prog 38 #[valV v] w fun e w' => e = .returned (.bool (fitP v)) ∧ Below w.heap.size w w' := by
  have HW := fun w => wf_any v w hv
  have hN := hv.N
  have HF : Hid (fitP v = (wfB v && (if v.T = 2 then decide (¬ 2047 * 2 ^ 52 < v.N % 2 ^ 63 ∨ v.N = nanBits) else if v.T = 4 then decide (v.N < 1) else if v.T = 5 ∨ v.T = 7 then decide (v.N < 2) else true))) := rfl
  obtain ⟨T, N, S⟩ := v
  have ha := and_low63 N hN
  rw [valV_mk] at *
  simp only at HF
  generalize wfB ⟨T, N, S⟩ = wb at *
  have key : ∀ w1, Below (w.alloc (vBox T N S)).heap.size (w.alloc (vBox T N S)) w1 → w1.cell? ⟨w.heap.size, 0, none⟩ = some (.int .i64 T) ∧ w1.cell? ⟨w.heap.size, 1, none⟩ = some (.int .u64 (N : Int)) ∧ w.heap.size < w1.heap.size ∧ Below w.heap.size w w1 := by
    intro w1 hb
    have e0 := hb.block w.heap.size (by simp)
    rw [World.alloc_heap_new] at e0
    obtain ⟨c0, c1, _, _⟩ := cells3 e0
    exact ⟨c0, c1, heap_lt e0, below_two (below_one _ _) hb⟩
  have HK : Hid (∀ w1, Below (w.alloc (vBox T N S)).heap.size (w.alloc (vBox T N S)) w1 → w1.cell? ⟨w.heap.size, 0, none⟩ = some (.int .i64 T) ∧ w1.cell? ⟨w.heap.size, 1, none⟩ = some (.int .u64 (N : Int)) ∧ w.heap.size < w1.heap.size ∧ Below w.heap.size w w1) := key
  clear hv key
  cases wb
  · go_enter Tryz.func38, Tryz.ntmps38
    go_wp2_with fail
    refine (HW _).mono ?_; rintro e w1 ⟨rfl, hb⟩
    have HB : Hid (Below w.heap.size w w1) := (HK.out w1 hb).2.2.2
    clear hb HW HK
    go_wp2_with fail
    go_ret
    exact ⟨by rw [HF.out]; rfl, HB.out⟩
  by_cases t2 : T = 2
  · subst t2
    generalize hM : N % 2 ^ 63 = M at *
    by_cases hle : (M : Int) ≤ 9218868437227405312
    · have hd : decide ((M : Int) ≤ 9218868437227405312) = true := decide_eq_true hle
      have HF2 : Hid (fitP ⟨2, N, S⟩ = true) := by
        rw [HF.out]
        show _ = _
        rw [Bool.true_and, if_pos rfl]
        exact decide_eq_true (.inl (by omega))
      go_enter Tryz.func38, Tryz.ntmps38
      go_wp2_with fail
      refine (HW _).mono ?_; rintro e w1 ⟨rfl, hb⟩
      obtain ⟨c0, c1, c2, c3⟩ := HK.out w1 hb
      have HB : Hid (Below w.heap.size w w1) := c3
      clear hb HW HK c3
      go_wp2_with fail
      go_ret
      exact ⟨by rw [HF2.out]; rfl, HB.out⟩
    · have hd : decide ((M : Int) ≤ 9218868437227405312) = false := decide_eq_false hle
      have HF2 : Hid (fitP ⟨2, N, S⟩ = decide (N = nanBits)) := by
        rw [HF.out]
        show _ = _
        rw [Bool.true_and, if_pos rfl]
        congr 1
        apply propext
        constructor
        · rintro (h | h)
          · omega
          · exact h
        · intro h; exact .inr h
      have hq : ((N : Int) == 9221120237041090561) = decide (N = nanBits) := by
        rw [Bool.eq_iff_iff, beq_iff_eq, decide_eq_true_eq]
        unfold nanBits
        omega
      go_enter Tryz.func38, Tryz.ntmps38
      go_wp2_with fail
      refine (HW _).mono ?_; rintro e w1 ⟨rfl, hb⟩
      obtain ⟨c0, c1, c2, c3⟩ := HK.out w1 hb
      have HB : Hid (Below w.heap.size w w1) := c3
      clear hb HW HK c3
      go_wp2_with fail
      go_ret
      exact ⟨by rw [HF2.out]; rfl, HB.out⟩
  have b2 : (T == 2) = false := by simpa using t2
  by_cases t4 : T = 4
  · subst t4
    have HF2 : Hid (fitP ⟨4, N, S⟩ = decide ((N : Int) < 1)) := by
      rw [HF.out]
      show _ = _
      rw [Bool.true_and, if_neg (by decide), if_pos rfl]
      congr 1
      apply propext
      omega
    go_enter Tryz.func38, Tryz.ntmps38
    go_wp2_with fail
    refine (HW _).mono ?_; rintro e w1 ⟨rfl, hb⟩
    obtain ⟨c0, c1, c2, c3⟩ := HK.out w1 hb
    have HB : Hid (Below w.heap.size w w1) := c3
    clear hb HW HK c3
    go_wp2_with fail
    go_ret
    exact ⟨by rw [HF2.out]; first | rfl | simp, HB.out⟩
  have b4 : (T == 4) = false := by simpa using t4
  by_cases t57 : T = 5 ∨ T = 7
  · have HF2 : Hid (fitP ⟨T, N, S⟩ = decide ((N : Int) < 2)) := by
      rw [HF.out]
      show _ = _
      rw [Bool.true_and, if_neg t2, if_neg t4, if_pos t57]
      congr 1
      apply propext
      omega
    rcases t57 with rfl | rfl
    · go_enter Tryz.func38, Tryz.ntmps38
      go_wp2_with fail
      refine (HW _).mono ?_; rintro e w1 ⟨rfl, hb⟩
      obtain ⟨c0, c1, c2, c3⟩ := HK.out w1 hb
      have HB : Hid (Below w.heap.size w w1) := c3
      clear hb HW HK c3
      go_wp2_with fail
      go_ret
      exact ⟨by rw [HF2.out]; first | rfl | simp, HB.out⟩
    · go_enter Tryz.func38, Tryz.ntmps38
      go_wp2_with fail
      refine (HW _).mono ?_; rintro e w1 ⟨rfl, hb⟩
      obtain ⟨c0, c1, c2, c3⟩ := HK.out w1 hb
      have HB : Hid (Below w.heap.size w w1) := c3
      clear hb HW HK c3
      go_wp2_with fail
      go_ret
      exact ⟨by rw [HF2.out]; first | rfl | simp, HB.out⟩
  · have HF2 : Hid (fitP ⟨T, N, S⟩ = true) := by
      rw [HF.out]
      show _ = _
      rw [Bool.true_and, if_neg t2, if_neg t4, if_neg t57]
    have b5 : (T == 5) = false := by rw [beq_eq_false_iff_ne]; intro h; exact t57 (.inl h)
    have b7 : (T == 7) = false := by rw [beq_eq_false_iff_ne]; intro h; exact t57 (.inr h)
    go_enter Tryz.func38, Tryz.ntmps38
    go_wp2_with fail
    refine (HW _).mono ?_; rintro e w1 ⟨rfl, hb⟩
    obtain ⟨c0, c1, c2, c3⟩ := HK.out w1 hb
    have HB : Hid (Below w.heap.size w w1) := c3
    clear hb HW HK c3
    go_wp2_with fail
    go_ret
    exact ⟨by rw [HF2.out]; rfl, HB.out⟩
end Go.Proofs.Qxb6500293aGreatRR
