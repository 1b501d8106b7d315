import Derived.Test.Qxb6500293aGreatRRM3
import Derived.Test.Qxb6500293aGreatRRSf4
namespace Go.Proofs.Qxb6500293aGreatRR
open Go.RowKit
open Ieee (double)
set_option linter.unusedVariables false

theorem uand_32 (x : Nat) (hx : x < 18446744073709551616) : bits .and .u64 (x : Int) 4294967295 = ((x % 4294967296 : Nat) : Int) := by
  have := u64_and_nat x 4294967295 hx (by omega)
  rw [show (4294967295 : Nat) = 2 ^ 32 - 1 from rfl, Nat.and_two_pow_sub_one_eq_mod] at this
  exact this

theorem wrap_u64 (x : Nat) : IntKind.u64.wrap (x : Int) = ((x % 18446744073709551616 : Nat) : Int) := by
  simp [IntKind.wrap, IntKind.bits, IntKind.signed]
/-- Low half: the middle's low word shifted up, joined to the low word. -/
theorem or_lo (p q : Nat) (hq : q < 4294967296) : bits .or .u64 (IntKind.u64.wrap ((p : Int) * 4294967296)) (q : Int) = (((p * 4294967296) % 18446744073709551616 + q : Nat) : Int) := by
  rw [show (p : Int) * 4294967296 = ((p * 4294967296 : Nat) : Int) from by omega, wrap_u64, u64_or_nat _ _ (by omega) (by omega), nat_join 32 _ _ (by omega) (by omega)]
/-- One bit down over two words. -/
theorem or_down (L H : Nat) (hL : L < 18446744073709551616) : bits .or .u64 ((L : Int) / 2) (IntKind.u64.wrap ((H : Int) * 9223372036854775808)) = ((L / 2 + (H * 9223372036854775808) % 18446744073709551616 : Nat) : Int) := by
  rw [show (H : Int) * 9223372036854775808 = ((H * 9223372036854775808 : Nat) : Int) from by omega, wrap_u64, show (L : Int) / 2 = ((L / 2 : Nat) : Int) from by omega, u64_or_nat _ _ (by omega) (by omega), Nat.or_comm, nat_join 63 _ _ (by omega) (by omega), Nat.add_comm]

/-- The product's words after k bits have been cut off. -/
structure Cut (P k H L : Nat) (st : Bool) : Prop where
  lo : L = P / 2 ^ k % 18446744073709551616
  hi : H = P / 2 ^ k / 18446744073709551616
  st : st = (P % 2 ^ k != 0)
  big : k = 0 ∨ 9223372036854775808 ≤ P / 2 ^ k
theorem Cut.next {P k H L : Nat} {st : Bool} (h : Cut P k H L st) (hH : 0 < H) : Cut P (k + 1) (H / 2) (L / 2 + (H * 9223372036854775808) % 18446744073709551616) (if L % 2 = 1 then true else st) := by
  have e : P / 2 ^ (k + 1) = P / 2 ^ k / 2 := by rw [Nat.pow_succ, Nat.div_div_eq_div_mul]
  have h1 := h.lo
  have h2 := h.hi
  have h3 := h.st
  have e2 := Nat.mod_pow_succ (b := 2) (k := k) (x := P)
  have hk : 0 < 2 ^ k := Nat.two_pow_pos k
  generalize hX : P / 2 ^ k = X at *
  refine ⟨by rw [e]; omega, by rw [e]; omega, ?_, .inr (by rw [e]; omega)⟩
  rw [e2, h3]
  by_cases c : L % 2 = 1
  · rw [if_pos c, show X % 2 = 1 from by omega]
    symm; simp; try omega
  · rw [if_neg c, show X % 2 = 0 from by omega, Nat.mul_zero, Nat.add_zero]
theorem Cut.pack {P k L : Nat} {st : Bool} (h : Cut P k 0 L st) (s : Bool) (e : Int) : (st = true → 2 ^ 53 ≤ L) ∧ Fl.packP s L (e + k) st = double.nearest s P e := by
  have h1 := h.lo
  have h2 := h.hi
  have h3 := h.st
  have hb := h.big
  have hL : L = P / 2 ^ k := by
    generalize P / 2 ^ k = X at *
    omega
  have := Fl.pack_cut s P k e (by rcases hb with c | c; · exact .inl c
                                  · exact .inr (Nat.le_trans (by decide) c))
  rw [hL, h3]
  refine ⟨fun h => ?_, this⟩
  rcases hb with c | c
  · subst c; simp [Nat.mod_one] at h
  · exact Nat.le_trans (by decide) c

theorem xor_sg (a b : Nat) (ha : a < 18446744073709551616) (hb : b < 18446744073709551616) : ∃ c : Nat, c < 18446744073709551616 ∧ bits .xor .u64 (a : Int) (b : Int) = (c : Int) ∧ bits .and .u64 (c : Int) 9223372036854775808 = (sgW (neg a ^^ neg b) : Int) ∧ c % 2 ^ 63 = (a % 2 ^ 63) ^^^ (b % 2 ^ 63) ∧ neg c = (neg a ^^ neg b) := by
  have hc : a ^^^ b < 2 ^ 64 := Nat.xor_lt_two_pow ha hb
  have hd : (a ^^^ b) / 2 ^ 63 = a / 2 ^ 63 ^^^ b / 2 ^ 63 := Nat.xor_div_two_pow
  have hneg : neg (a ^^^ b) = (neg a ^^ neg b) := by
    unfold neg
    have n1 : decide (2 ^ 63 ≤ a ^^^ b) = decide ((a ^^^ b) / 2 ^ 63 = 1) := decide_eq_decide.2 (by omega)
    rw [n1, hd]
    rcases (by omega : a / 2 ^ 63 = 0 ∨ a / 2 ^ 63 = 1) with h | h <;> rcases (by omega : b / 2 ^ 63 = 0 ∨ b / 2 ^ 63 = 1) with g | g <;> rw [h, g]
    · rw [decide_eq_false (by omega : ¬ 2 ^ 63 ≤ a), decide_eq_false (by omega : ¬ 2 ^ 63 ≤ b)]; rfl
    · rw [decide_eq_false (by omega : ¬ 2 ^ 63 ≤ a), decide_eq_true (by omega : 2 ^ 63 ≤ b)]; rfl
    · rw [decide_eq_true (by omega : 2 ^ 63 ≤ a), decide_eq_false (by omega : ¬ 2 ^ 63 ≤ b)]; rfl
    · rw [decide_eq_true (by omega : 2 ^ 63 ≤ a), decide_eq_true (by omega : 2 ^ 63 ≤ b)]; rfl
  exact ⟨a ^^^ b, hc, u64_xor_nat a b ha hb, by rw [and_sg _ hc, hneg], Nat.xor_mod_two_pow, hneg⟩

theorem sgW_word (s : Bool) : sgW s = double.word s 0 := by
  cases s
  · rw [Fl.word_false]; rfl
  · rw [Fl.word_true]; rfl

end Go.Proofs.Qxb6500293aGreatRR
