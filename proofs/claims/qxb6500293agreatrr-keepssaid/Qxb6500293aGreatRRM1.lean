import Derived.Test.Qxb6500293aGreatRRW1
import Derived.Test.Qxb6500293aGreatRRSf2
namespace Go.Proofs.Qxb6500293aGreatRR
open Go.RowKit
open Ieee (double)

/-- The sign bit as a word. -/
def sgW (s : Bool) : Nat := if s then 9223372036854775808 else 0
theorem or_word (s : Bool) (r : Nat) (hr : r < 2 ^ 63) : bits .or .u64 (sgW s : Int) (r : Int) = (double.word s r : Int) := by
  have h : sgW s < 18446744073709551616 := by cases s <;> decide
  rw [u64_or_nat _ _ h (by omega)]
  cases s
  · rw [Fl.word_false, show sgW false = 0 from rfl, Nat.zero_or]
  · rw [Fl.word_true, show sgW true = 2 ^ 63 from rfl, nat_join 63 _ _ (by decide) hr]
theorem or_inf (s : Bool) : bits .or .u64 (sgW s : Int) 9218868437227405312 = (double.word s 9218868437227405312 : Int) := or_word s 9218868437227405312 (by decide)

theorem ret_nat {k : IntKind} {a b : Nat} (h : a = b) : Ending.returned (.int k (a : Int)) = .returned (.int k (b : Int)) := by rw [h]
/-- What a round's end comes to: q or one more. -/
theorem up_cases (M d Q R H : Nat) (st : Bool) (hQ : Q = M / 2 ^ d) (hR : R = M % 2 ^ d) (hH : H = 2 ^ (d - 1)) :
    (R < H ∧ Fl.up M d st = Q) ∨ (R = H ∧ st = true ∧ Fl.up M d st = Q + 1) ∨ (R = H ∧ st = false ∧ Q % 2 = 1 ∧ Fl.up M d st = Q + 1) ∨ (R = H ∧ st = false ∧ Q % 2 = 0 ∧ Fl.up M d st = Q) ∨ (H < R ∧ Fl.up M d st = Q + 1) := by
  unfold Fl.up
  rw [← hQ, ← hR, ← hH]
  rcases Nat.lt_trichotomy R H with c | c | c
  · left; exact ⟨c, by rw [if_neg (by omega)]; omega⟩
  · subst c
    cases st
    · rcases Nat.mod_two_eq_zero_or_one Q with o | o
      · right; right; right; left; exact ⟨rfl, rfl, o, by rw [if_neg (by simp; omega)]; omega⟩
      · right; right; left; exact ⟨rfl, rfl, o, by rw [if_pos (by simp; omega)]⟩
    · right; left; exact ⟨rfl, rfl, by rw [if_pos (by simp)]⟩
  · right; right; right; right; exact ⟨c, by rw [if_pos (.inl c)]⟩

theorem uand_1 (x : Nat) (hx : x < 18446744073709551616) : bits .and .u64 (x : Int) 1 = ((x % 2 : Nat) : Int) := by
  have := u64_and_nat x 1 hx (by omega)
  rw [nat_mask1] at this
  exact this

end Go.Proofs.Qxb6500293aGreatRR
