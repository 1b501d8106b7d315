/-
  Owes walked: the error that a step owes.
-/
import Derived.Test.Qxb6500292aK4
namespace Go.Proofs.Qxb6500292a
open Go.RowKit
open Ieee (double)
set_option linter.unusedVariables false
set_option linter.unusedSimpArgs false

/-- Owes' own three boxes: the step, the key, the value. -/
abbrev owW (w : World) (K A B C : Int) (S T : List UInt8) (k v : V) : World := ((w.alloc (.cells #[.int .i64 K, .int .i64 A, .int .i64 B, .int .i64 C, .string ⟨S.toArray⟩, .string ⟨T.toArray⟩] 47)).alloc (.cells #[.int .i64 k.T, .int .u64 k.N, .string ⟨k.S.toArray⟩] 42)).alloc (.cells #[.int .i64 v.T, .int .u64 v.N, .string ⟨v.S.toArray⟩] 42)
structure OwB (w W : World) (K A : Int) (k v : V) : Prop where
  o0 : W.cell? ⟨w.heap.size, 0, none⟩ = some (.int .i64 K)
  o1 : W.cell? ⟨w.heap.size, 1, none⟩ = some (.int .i64 A)
  kb : VB W (w.heap.size + 1) k
  vb : VB W (w.heap.size + 1 + 1) v
theorem owW_below (w : World) (K A B C : Int) (S T : List UInt8) (k v : V) : Below w.heap.size w (owW w K A B C S T k v) := below_two (below_two (below_one _ _) (below_one _ _)) (below_one _ _)
theorem OwB.new (w : World) (K A B C : Int) (S T : List UInt8) (k v : V) : OwB w (owW w K A B C S T k v) K A k v := by
  have h0 : (owW w K A B C S T k v).heap[w.heap.size]? = some (.cells #[.int .i64 K, .int .i64 A, .int .i64 B, .int .i64 C, .string ⟨S.toArray⟩, .string ⟨T.toArray⟩] 47) := by
    have := World.alloc_heap_new w (.cells #[.int .i64 K, .int .i64 A, .int .i64 B, .int .i64 C, .string ⟨S.toArray⟩, .string ⟨T.toArray⟩] 47)
    exact ((below_one _ _).block _ (by simp; omega)).trans (((below_one _ _).block _ (by simp)).trans this)
  obtain ⟨h1, h2⟩ := two_vals (w := w.alloc (.cells #[.int .i64 K, .int .i64 A, .int .i64 B, .int .i64 C, .string ⟨S.toArray⟩, .string ⟨T.toArray⟩] 47)) (k := k) (z := v) (Below.refl _ _)
  rw [World.size_alloc] at h1 h2
  exact ⟨by simp [World.cell?, h0], by simp [World.cell?, h0], h1, h2.1⟩
theorem OwB.below {w W W' : World} {K A : Int} {k v : V} (h : OwB w W K A k v) (hlt : w.heap.size < W.heap.size) (hb : Below W.heap.size W W') : OwB w W' K A k v :=
  ⟨(hb.cell (p := ⟨w.heap.size, 0, none⟩) hlt).trans h.o0, (hb.cell (p := ⟨w.heap.size, 1, none⟩) hlt).trans h.o1, h.kb.below hb, h.vb.below hb⟩
theorem uand_63 (N : Nat) (hN : N < 18446744073709551616) : bits .and .u64 (N : Int) 9223372036854775807 = ((N % 9223372036854775808 : Nat) : Int) := by
  have := u64_and_nat N 9223372036854775807 hN (by omega)
  rw [show N &&& 9223372036854775807 = N % 9223372036854775808 from Nat.and_two_pow_sub_one_eq_mod N 63] at this
  exact this
set_option maxRecDepth 8000 in
set_option maxHeartbeats 3200000 in
theorem owes_low (g : Nat) (st : List Tbl) (gs : Gs) (ad : Option Addr) (cp : Nat) (K A B C : Int) (S T : List UInt8) (k v : V) (a : Int) (at' : Option Nat) (w : World) (H : GRow w g st gs ad cp) (hm : st.length ≤ 12) (hK : (K < 6 ∨ 10 < K) ∨ (A < 0 ∨ (st.length : Int) ≤ A)) :
    Calls Try.prog 19 #[.pointer (some ⟨g, 0, none⟩), opV K A B C S T, valV k, valV v, .int .i64 a] w fun e w' => e = .returned (.int .i64 (owesP st K A k v at')) ∧ Below w.heap.size w w' := by
  have HB : Hid (Below w.heap.size w (owW w K A B C S T k v)) := owW_below w K A B C S T k v
  have hne : ¬ g = w.heap.size := by have := H.lg; omega
  obtain ⟨c0, _, _, _, _⟩ := H.below HB.out
  have c0w := H.c0
  obtain ⟨o0, o1, _, _⟩ := OwB.new w K A B C S T k v
  by_cases h3 : K = 3
  · subst h3
    by_cases hf : 12 ≤ st.length
    · have HV : Hid (owesP st 3 A k v at' = 8) := by show _ = _; unfold owesP; rw [if_pos ⟨rfl, hf⟩]
      have h12 : st.length = 12 := by omega
      rw [h12] at c0 c0w
      obtain ⟨kT, kN, kS⟩ := k
      obtain ⟨vT, vN, vS⟩ := v
      rw [opV_mk, valV_mk, valV_mk]
      clear H hK hf h12 hm
      go_enter Try.func19, Try.ntmps19
      go_wp2
      go_ret
      exact ⟨by rw [HV.out]; rfl, HB.out⟩
    · have HV : Hid (owesP st 3 A k v at' = 0) := by show _ = _; unfold owesP; rw [if_neg (fun h => hf h.2), if_pos (.inl (by decide))]
      have d12 : decide ((12 : Int) ≤ (st.length : Int)) = false := decide_eq_false (by omega)
      have e12 : decide (12 ≤ st.length) = false := decide_eq_false hf
      obtain ⟨kT, kN, kS⟩ := k
      obtain ⟨vT, vN, vS⟩ := v
      rw [opV_mk, valV_mk, valV_mk]
      generalize st.length = sl at *
      clear H hK hf
      go_enter Try.func19, Try.ntmps19
      go_wp2
      go_ret
      exact ⟨by rw [HV.out]; rfl, HB.out⟩
  · have e3 : (K == 3) = false := by simpa using h3
    by_cases hb : K < 6 ∨ 10 < K
    · have HV : Hid (owesP st K A k v at' = 0) := by show _ = _; unfold owesP; rw [if_neg (fun h => h3 h.1), if_pos hb]
      obtain ⟨kT, kN, kS⟩ := k
      obtain ⟨vT, vN, vS⟩ := v
      rw [opV_mk, valV_mk, valV_mk]
      generalize st.length = sl at *
      have hb2 : K < 6 ∨ (¬ K < 6 ∧ 10 < K) := by omega
      clear H hK hb h3
      rcases hb2 with hb | ⟨hb1, hb⟩
      · have d6 : decide (K < 6) = true := decide_eq_true hb
        go_enter Try.func19, Try.ntmps19
        go_wp2
        go_ret
        exact ⟨by rw [HV.out]; rfl, HB.out⟩
      · have d6 : decide (K < 6) = false := decide_eq_false hb1
        have d10 : decide (10 < K) = true := decide_eq_true hb
        go_enter Try.func19, Try.ntmps19
        go_wp2
        go_ret
        exact ⟨by rw [HV.out]; rfl, HB.out⟩
    · have hA : A < 0 ∨ (st.length : Int) ≤ A := hK.resolve_left hb
      have HV : Hid (owesP st K A k v at' = 3) := by show _ = _; unfold owesP; rw [if_neg (fun h => h3 h.1), if_neg hb, if_pos hA]
      have d6 : decide (K < 6) = false := decide_eq_false (by omega)
      have d10 : decide (10 < K) = false := decide_eq_false (by omega)
      obtain ⟨kT, kN, kS⟩ := k
      obtain ⟨vT, vN, vS⟩ := v
      rw [opV_mk, valV_mk, valV_mk]
      generalize st.length = sl at *
      have hA2 : A < 0 ∨ (¬ A < 0 ∧ (sl : Int) ≤ A) := by omega
      clear H hK hb h3 hA
      rcases hA2 with hA | ⟨hA1, hA⟩
      · have dA : decide (A < 0) = true := decide_eq_true hA
        go_enter Try.func19, Try.ntmps19
        go_wp2
        go_quiet (fail)
        go_wp2
        go_ret
        exact ⟨by rw [HV.out]; rfl, below_drewN HB.out _⟩
      · have dA : decide (A < 0) = false := decide_eq_false hA1
        have dB : decide ((sl : Int) ≤ A) = true := decide_eq_true hA
        go_enter Try.func19, Try.ntmps19
        go_wp2
        go_quiet (fail)
        go_wp2
        go_ret
        exact ⟨by rw [HV.out]; rfl, below_drewN HB.out _⟩
end Go.Proofs.Qxb6500292a
