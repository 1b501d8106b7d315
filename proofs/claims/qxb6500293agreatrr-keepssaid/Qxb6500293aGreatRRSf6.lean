/-
  THE PLAIN MATHEMATICS OF THE SOFT FLOAT, MORE (no Go in sight): the sign turned; the six operations.
-/
import Derived.Test.Qxb6500293aGreatRRSf5
namespace Go.Proofs.Qxb6500293aGreatRR
open Ieee (double Datum signed)

theorem nearest_word (s : Bool) (m : Nat) (e : Int) : double.nearest s m e < 18446744073709551616 := Ieee.Format.nearest_lt double s m e
theorem word_lt (s : Bool) {r : Nat} (h : r < 2 ^ 63) : double.word s r < 18446744073709551616 := by
  cases s
  · rw [Fl.word_false]; omega
  · rw [Fl.word_true]; omega
theorem write_lt {d : Datum} (h : ∀ s t, d ≠ .nan s t) : double.write d < 18446744073709551616 := by
  cases d with
  | nan s t => exact absurd rfl (h s t)
  | infinity s =>
    show double.word s double.infRung < _
    rw [Fl.infRung_eq]; exact word_lt s (by omega)
  | number s m e => exact nearest_word s m e
theorem sum_not_nan {a b d : Datum} (h : Datum.sum a b = some d) : ∀ s t, d ≠ .nan s t := by
  intro s t e
  subst e
  cases a <;> cases b <;> simp [Datum.sum] at h
theorem product_not_nan {a b d : Datum} (h : Datum.product a b = some d) : ∀ s t, d ≠ .nan s t := by
  intro s t e
  subst e
  cases a <;> cases b <;> simp [Datum.product] at h
theorem quotient_not_nan {n : Nat} {a b d : Datum} (h : Datum.quotient n a b = some d) : ∀ s t, d ≠ .nan s t := by
  intro s t e
  subst e
  cases a <;> cases b <;> simp [Datum.quotient] at h
  split at h <;> try split at h
  all_goals simp at h
theorem getD_lt {o : Option Datum} (h : ∀ d, o = some d → ∀ s t, d ≠ .nan s t) : (o.map double.write).getD nanV < 18446744073709551616 := by
  cases o with
  | none => decide
  | some d => exact write_lt (h d rfl)
theorem addW_lt (a b : Nat) : addW a b < 18446744073709551616 := getD_lt fun _ => sum_not_nan
theorem mulW_lt (a b : Nat) : mulW a b < 18446744073709551616 := getD_lt fun _ => product_not_nan
theorem divW_lt (a b : Nat) : divW a b < 18446744073709551616 := getD_lt fun _ => quotient_not_nan
theorem floorW_lt (x : Nat) (hx : x < 18446744073709551616) : floorW x < 18446744073709551616 := by
  by_cases c : 2047 * 2 ^ 52 < x % 2 ^ 63
  · rw [floorW_nan c]; decide
  by_cases d : x % 2 ^ 63 = 2047 * 2 ^ 52
  · rw [floorW_inf hx d]; exact hx
  · rw [floorW_fin hx (by omega)]; exact nearest_word ..

/-- The sign turned. -/
def flipS (x : Nat) : Nat := x ^^^ 2 ^ 63
theorem flipS_lt {x : Nat} (hx : x < 18446744073709551616) : flipS x < 18446744073709551616 := Nat.xor_lt_two_pow (n := 64) hx (by decide)
theorem flipS_mod (x : Nat) : flipS x % 2 ^ 63 = x % 2 ^ 63 := by
  unfold flipS
  rw [Nat.xor_mod_two_pow, Nat.mod_self, Nat.xor_zero]
theorem flipS_div (x : Nat) : flipS x / 2 ^ 63 = x / 2 ^ 63 ^^^ 1 := by
  unfold flipS
  rw [Nat.xor_div_two_pow, Nat.div_self (by decide)]
theorem flipS_neg {x : Nat} (hx : x < 18446744073709551616) : neg (flipS x) = !neg x := by
  have h := flipS_div x
  have hl := flipS_lt hx
  unfold neg
  rcases (by omega : x / 2 ^ 63 = 0 ∨ x / 2 ^ 63 = 1) with c | c
  · rw [c] at h
    have h : flipS x / 2 ^ 63 = 1 := h
    rw [decide_eq_true (by omega : 2 ^ 63 ≤ flipS x), decide_eq_false (by omega : ¬ 2 ^ 63 ≤ x)]; rfl
  · rw [c] at h
    have h : flipS x / 2 ^ 63 = 0 := h
    rw [decide_eq_false (by omega : ¬ 2 ^ 63 ≤ flipS x), decide_eq_true (by omega : 2 ^ 63 ≤ x)]; rfl
/-- A difference is the sum with the sign turned. -/
theorem sub_addW (a b : Nat) (hb : b < 18446744073709551616) : (double.sub a b).getD nanV = addW a (flipS b) := by
  unfold addW Ieee.Format.add Ieee.Format.sub
  by_cases c : 2047 * 2 ^ 52 < b % 2 ^ 63
  · obtain ⟨s, t, e⟩ := read_nanx c
    obtain ⟨s', t', e'⟩ := read_nanx (x := flipS b) (by rw [flipS_mod]; exact c)
    rw [e, e']
    cases double.read a <;> rfl
  by_cases d : b % 2 ^ 63 = 2047 * 2 ^ 52
  · rw [read_infx hb d, read_infx (flipS_lt hb) (by rw [flipS_mod]; exact d), flipS_neg hb]; rfl
  · rw [read_fin hb (by omega), read_fin (flipS_lt hb) (by rw [flipS_mod]; omega), flipS_neg hb, flipS_mod]; rfl

/-- The six operations. -/
def arithW (op : Int) (a b : Nat) : Nat :=
  if op = 1 then addW a b else if op = 2 then addW a (flipS b) else if op = 3 then mulW a b else if op = 4 then divW a b
  else if op = 5 then floorW (divW a b) else if op = 6 then addW a (flipS (mulW (floorW (divW a b)) b)) else nanV
def negW (a : Nat) : Nat := if 2047 * 2 ^ 52 < a % 2 ^ 63 then nanV else flipS a
end Go.Proofs.Qxb6500293aGreatRR
