import Derived.Test.Qxb6500290aW7
import Derived.Deep.QuietTactic
import Derived.BigQuiet
namespace Go.Proofs.Qxb6500290a
open Go.RowKit
open Ieee (double)

/-- The word of an int (its 64 bits). -/
def wordOf (i : Int) : Nat := (i % 18446744073709551616).toNat
theorem wordOf_lt (i : Int) : wordOf i < 18446744073709551616 := by unfold wordOf; omega
theorem wordOf_eq (i : Int) : IntKind.u64.wrap i = (wordOf i : Int) := by
  rw [IntKind.wrap_u64]; unfold wordOf; omega

/-- An int64. -/
def I64 (i : Int) : Prop := -9223372036854775808 ≤ i ∧ i ≤ 9223372036854775807
/-- A step of a script, as a value. -/
def opVal (K A B C : Int) (S T : List UInt8) : Value := .agg #[.int .i64 K, .int .i64 A, .int .i64 B, .int .i64 C, .string ⟨S.toArray⟩, .string ⟨T.toArray⟩]

set_option maxHeartbeats 800000 in
theorem keptTexts_any (n b : Nat) (K A B C : Int) (S T : List UInt8) (w : World) (hn : NumW n b w) (hA : I64 A) (hC : I64 C) (hS : S.length ≤ 9223372036854775807) :
    Calls Try.prog 14 #[.pointer (some ⟨n, 0, none⟩), opVal K A B C S T] w (Kp n b w) := by
  unfold opVal
  have hst : Stp b w (w.alloc (.cells #[.int .i64 K, .int .i64 A, .int .i64 B, .int .i64 C, .string ⟨S.toArray⟩, .string ⟨T.toArray⟩] 29)) := (Stp.refl _ _).alloc _
  have hn1 : NumW n b (w.alloc (.cells #[.int .i64 K, .int .i64 A, .int .i64 B, .int .i64 C, .string ⟨S.toArray⟩, .string ⟨T.toArray⟩] 29)) := hn.below ((Below.refl _ _).alloc (Nat.le_refl _) _)
  by_cases k6 : K = 6
  · subst k6
    have hw := wordOf_eq B
    go_enter Try.func14, Try.ntmps14
    go_wp2_with (go_at_call 26; refine (keptText_any n b (wordOf B) _ hn1 (wordOf_lt B)).mono ?_; rintro e w1 ⟨rfl, hs1, hn2⟩)
    go_ret
    exact kp_mk rfl (hst.trans hs1) hn2
  by_cases k4 : K = 4
  · subst k4
    go_enter Try.func14, Try.ntmps14
    go_wp2_with (go_at_call 27; refine (keptDecimal_any n b A _ hn1 hA.1 hA.2).mono ?_; rintro e w1 ⟨rfl, hs1, hn2⟩)
    go_ret
    exact kp_mk rfl (hst.trans hs1) hn2
  by_cases k7 : K = 7
  · subst k7
    go_enter Try.func14, Try.ntmps14
    go_wp2_with (first | (go_at_call 28; refine (keptParse_any _ S _ hS).mono ?_; rintro e w0 ⟨rfl, rfl⟩) | (go_at_call 29; refine (keptScale_any n b A B C _ hn1 hC.1 hC.2).mono ?_; rintro e w1 ⟨rfl, hs1, hn2⟩))
    go_ret
    exact kp_mk rfl (hst.trans hs1) hn2
  · have e6 : (K == 6) = false := by simpa using k6
    have e4 : (K == 4) = false := by simpa using k4
    have e7 : (K == 7) = false := by simpa using k7
    clear k6 k4 k7
    go_enter Try.func14, Try.ntmps14
    go_wp2
    go_ret
    exact kp_mk rfl hst hn1

/-- The k-th step of the script lies in memory. -/
def OpAt (w : World) (b off k : Nat) (K A B C : Int) (S T : List UInt8) : Prop :=
  w.cell? ⟨b, off + k * 6, none⟩ = some (.int .i64 K) ∧ w.cell? ⟨b, off + k * 6 + 1, none⟩ = some (.int .i64 A) ∧ w.cell? ⟨b, off + k * 6 + 2, none⟩ = some (.int .i64 B) ∧ w.cell? ⟨b, off + k * 6 + 3, none⟩ = some (.int .i64 C) ∧
  w.cell? ⟨b, off + k * 6 + 4, none⟩ = some (.string ⟨S.toArray⟩) ∧ w.cell? ⟨b, off + k * 6 + 5, none⟩ = some (.string ⟨T.toArray⟩) ∧ I64 K ∧ I64 A ∧ I64 B ∧ I64 C ∧ S.length ≤ 9223372036854775807 ∧ T.length ≤ 9223372036854775807
/-- What a law is told of the script: nil, or without a step, or its steps lie in memory. -/
def IsOps (w : World) (a : Option Addr) (len : Nat) : Prop :=
  len < 4398046511104 ∧ (len = 0 ∨ ∃ b off, a = some ⟨b, off, none⟩ ∧ b < w.heap.size ∧ ∀ k, k < len → ∃ K A B C S T, OpAt w b off k K A B C S T)
theorem OpAt.below {w w' : World} {b off k : Nat} {K A B C : Int} {S T : List UInt8} (h : OpAt w b off k K A B C S T) (hb : Below w.heap.size w w') (hlt : b < w.heap.size) : OpAt w' b off k K A B C S T := by
  unfold OpAt at *
  have hc : ∀ o, w'.cell? ⟨b, o, none⟩ = w.cell? ⟨b, o, none⟩ := fun o => hb.cell (p := ⟨b, o, none⟩) hlt
  simp only [hc]
  exact h

set_option maxHeartbeats 800000 in
theorem keepsTextUpTo_any (a : Option Addr) (len cap : Nat) (w : World) (hs : IsOps w a len) :
    Calls Try.prog 10 #[.slice a len cap] w fun e w' => e = .returned (.int .i64 (-1)) ∧ Below w.heap.size w w' := by
  obtain ⟨hlen, hops⟩ := hs
  go_enter Try.func10, Try.ntmps10
  go_wp2_with (go_at_call 11; refine (new_any _).mono ?_; rintro e w1 ⟨rfl, hb1, hn1, hbl1, hsz1⟩)
  have hnum : NumW (w.heap.size + 1) w.heap.size w1 := ⟨hn1, by omega, _, hb1, by simp⟩
  have HN : Hid (NumW (w.heap.size + 1) w.heap.size w1) := hnum
  clear hb1 hn1 hnum
  go_loopw [4] (fun i w2 => ∃ k : Nat, i = .int .i64 (k : Int) ∧ k ≤ len ∧ NumW (w.heap.size + 1) w.heap.size w2 ∧ Below w.heap.size w w2) (fun i _ => len - (intOf i).toNat)
  case atStart => exact ⟨0, rfl, by omega, HN.out, hbl1⟩
  case round =>
    obtain ⟨k, rfl, hk, hnw, hbl⟩ := hrel
    by_cases hlt : k < len
    · rcases hops with h0 | ⟨b, off, rfl, hbw, hall⟩
      · omega
      obtain ⟨K, A, B, C, S, T, hop⟩ := hall k hlt
      have hop2 := hop.below hbl hbw
      obtain ⟨c0, c1, c2, c3, c4, c5, iK, iA, iB, iC, lS, lT⟩ := hop2
      clear hop hall
      have d1 : decide ((k : Int) < (len : Int)) = true := decide_eq_true (by omega)
      have d2 : decide ((k : Int) < 4398046511104) = true := decide_eq_true (by omega)
      go_wp2_with (go_at_call 14; refine (keptTexts_any _ _ K A B C S T _ hnw iA iC lS).mono ?_; rintro e w2 ⟨rfl, hs2, hn2⟩)
      go_roundw
      case rel => exact ⟨k + 1, by go_num, by omega, hn2, hbl.trans (hs2.below (Nat.le_refl _) hbl.size)⟩
      case measure => simp [intOf]; omega
    · go_wp2
      go_ret
      exact ⟨rfl, hbl⟩

set_option maxHeartbeats 400000 in
theorem keepsText_walk (a : Option Addr) (len cap : Nat) (w : World) (hs : IsOps w a len) :
    Calls Try.prog 6 #[.slice a len cap] w fun e w' => e = .returned (.bool true) ∧ Below w.heap.size w w' := by
  go_enter Try.func6, Try.ntmps6
  go_wp2_with (go_at_call 10; refine (keepsTextUpTo_any a len cap _ hs).mono ?_; rintro e w1 ⟨rfl, hb⟩)
  go_ret
  exact ⟨rfl, hb⟩
end Go.Proofs.Qxb6500290a
