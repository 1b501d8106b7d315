/-
  THE PLAIN MATHEMATICS OF DECIMALS (no Go in sight).
-/
namespace Go.Proofs.Qxb6500293aGreatRR

/-- u in j decimal digits, the first digit first (u < 10^j). -/
def fx : Nat → Nat → List UInt8
  | 0, _ => []
  | j + 1, u => UInt8.ofNat (48 + u / 10 ^ j) :: fx j (u % 10 ^ j)

theorem fx_length (j u : Nat) : (fx j u).length = j := by
  induction j generalizing u with
  | zero => rfl
  | succ j ih => simp [fx, ih]

/-- The last digit. -/
theorem fx_last (j u : Nat) (h : u < 10 ^ (j + 1)) : fx (j + 1) u = fx j (u / 10) ++ [UInt8.ofNat (48 + u % 10)] := by
  induction j generalizing u with
  | zero =>
    have : u < 10 := by simpa using h
    simp [fx, Nat.mod_eq_of_lt this]
  | succ j ih =>
    have hp : 0 < 10 ^ (j + 1) := Nat.pow_pos (by omega)
    have e1 : fx (j + 1 + 1) u = UInt8.ofNat (48 + u / 10 ^ (j + 1)) :: fx (j + 1) (u % 10 ^ (j + 1)) := rfl
    have e2 : fx (j + 1) (u / 10) = UInt8.ofNat (48 + u / 10 / 10 ^ j) :: fx j (u / 10 % 10 ^ j) := rfl
    rw [e1, e2, ih _ (Nat.mod_lt _ hp)]
    have e3 : u / 10 / 10 ^ j = u / 10 ^ (j + 1) := by rw [Nat.div_div_eq_div_mul, Nat.pow_succ, Nat.mul_comm]
    have e4 : u % 10 ^ (j + 1) / 10 = u / 10 % 10 ^ j := by
      rw [Nat.pow_succ, Nat.mul_comm, Nat.mod_mul_right_div_self]
    have e5 : u % 10 ^ (j + 1) % 10 = u % 10 := Nat.mod_mod_of_dvd u ⟨10 ^ j, by rw [Nat.pow_succ, Nat.mul_comm]⟩
    rw [e3, e4, e5]
    rfl

/-- How many decimal digits u has (at least one), for u below 10^(k+1). -/
def ndF : Nat → Nat → Nat
  | 0, _ => 1
  | k + 1, u => if u < 10 then 1 else 1 + ndF k (u / 10)
def nd (u : Nat) : Nat := ndF 20 u

theorem ndF_spec (k u : Nat) (h : u < 10 ^ (k + 1)) : u < 10 ^ ndF k u ∧ 1 ≤ ndF k u ∧ ndF k u ≤ k + 1 ∧ (ndF k u = 1 ∨ 10 ^ (ndF k u - 1) ≤ u) := by
  induction k generalizing u with
  | zero => simp [ndF] at *; exact h
  | succ k ih =>
    unfold ndF
    by_cases c : u < 10
    · rw [if_pos c]; simp; omega
    · rw [if_neg c]
      have h1 : u / 10 < 10 ^ (k + 1) := by
        rw [Nat.div_lt_iff_lt_mul (by omega), ← Nat.pow_succ]; exact h
      obtain ⟨a, b, d, e⟩ := ih (u / 10) h1
      generalize ndF k (u / 10) = n at *
      refine ⟨?_, by omega, by omega, .inr ?_⟩
      · rw [Nat.add_comm 1 n, Nat.pow_succ]
        exact (Nat.div_lt_iff_lt_mul (by omega)).1 a
      · rw [show 1 + n - 1 = n - 1 + 1 from by omega, Nat.pow_succ]
        rcases e with e | e
        · subst e; simp; omega
        · exact (Nat.le_div_iff_mul_le (by omega)).1 e

theorem nd_spec (u : Nat) (h : u < 18446744073709551616) : u < 10 ^ nd u ∧ 1 ≤ nd u ∧ nd u ≤ 20 ∧ (nd u = 1 ∨ 10 ^ (nd u - 1) ≤ u) := by
  have h1 : u < 10 ^ 20 := Nat.lt_of_lt_of_le h (by decide)
  have h2 : u < 10 ^ (20 + 1) := Nat.lt_of_lt_of_le h (by decide)
  obtain ⟨a, b, c, d⟩ := ndF_spec 20 u h2
  refine ⟨a, b, ?_, d⟩
  unfold nd
  by_cases e : ndF 20 u ≤ 20
  · exact e
  · rcases d with d | d
    · omega
    · have : 10 ^ 20 ≤ 10 ^ (ndF 20 u - 1) := Nat.pow_le_pow_right (by omega) (by omega)
      omega

/-- The number of digits is told by the powers of ten about u. -/
theorem nd_eq {u j : Nat} (hu : u < 18446744073709551616) (h1 : u < 10 ^ (j + 1)) (h2 : j = 0 ∨ 10 ^ j ≤ u) : nd u = j + 1 := by
  obtain ⟨a, b, c, d⟩ := nd_spec u hu
  by_cases lt : nd u < j + 1
  · rcases h2 with h2 | h2
    · omega
    · have : 10 ^ nd u ≤ 10 ^ j := Nat.pow_le_pow_right (by omega) (by omega)
      omega
  · by_cases gt : j + 1 < nd u
    · rcases d with d | d
      · omega
      · have : 10 ^ (j + 1) ≤ 10 ^ (nd u - 1) := Nat.pow_le_pow_right (by omega) (by omega)
        omega
    · omega

/-- u in decimal. -/
def dec (u : Nat) : List UInt8 := fx (nd u) u

theorem dec_length (u : Nat) : (dec u).length = nd u := fx_length _ _

/-- What a row of digits comes to, on top of m. -/
def val (m : Nat) (l : List UInt8) : Nat := l.foldl (fun a c => a * 10 + (c.toNat - 48)) m

theorem val_cons (m : Nat) (c : UInt8) (l : List UInt8) : val m (c :: l) = val (m * 10 + (c.toNat - 48)) l := by unfold val; rw [List.foldl_cons]
theorem fx_succ (j u : Nat) : fx (j + 1) u = UInt8.ofNat (48 + u / 10 ^ j) :: fx j (u % 10 ^ j) := rfl

def isDigit (c : UInt8) : Bool := 48 ≤ c.toNat && c.toNat ≤ 57

theorem digit_toNat {d : Nat} (h : d < 10) : (UInt8.ofNat (48 + d)).toNat = 48 + d := by
  simp [UInt8.toNat_ofNat]; omega

theorem fx_digits (j u : Nat) (h : u < 10 ^ j) : ∀ c ∈ fx j u, isDigit c = true := by
  induction j generalizing u with
  | zero => simp [fx]
  | succ j ih =>
    have hp : 0 < 10 ^ j := Nat.pow_pos (by omega)
    intro c hc
    simp only [fx, List.mem_cons] at hc
    rcases hc with rfl | hc
    · have : u / 10 ^ j < 10 := by rw [Nat.div_lt_iff_lt_mul hp, Nat.mul_comm, ← Nat.pow_succ]; exact h
      unfold isDigit
      rw [digit_toNat this]
      generalize u / 10 ^ j = q at *
      simp; omega
    · exact ih _ (Nat.mod_lt _ hp) c hc

theorem val_fx (j u m : Nat) (h : u < 10 ^ j) : val m (fx j u) = m * 10 ^ j + u := by
  induction j generalizing u m with
  | zero =>
    have : u = 0 := by
      rw [Nat.pow_zero] at h; omega
    subst this
    show m = m * 10 ^ 0 + 0
    rw [Nat.pow_zero, Nat.mul_one, Nat.add_zero]
  | succ j ih =>
    have hp : 0 < 10 ^ j := Nat.pow_pos (by omega)
    have hq : u / 10 ^ j < 10 := by rw [Nat.div_lt_iff_lt_mul hp, Nat.mul_comm, ← Nat.pow_succ]; exact h
    rw [fx_succ, val_cons, ih _ _ (Nat.mod_lt _ hp), digit_toNat hq]
    have := Nat.div_add_mod u (10 ^ j)
    rw [Nat.add_sub_cancel_left, Nat.add_mul, Nat.pow_succ, Nat.mul_assoc, Nat.mul_comm 10, Nat.add_assoc, Nat.mul_comm (u / 10 ^ j), this]

theorem dec_digits (u : Nat) (h : u < 18446744073709551616) : ∀ c ∈ dec u, isDigit c = true := fx_digits _ _ (nd_spec u h).1
theorem val_dec (u : Nat) (h : u < 18446744073709551616) : val 0 (dec u) = u := by
  unfold dec; rw [val_fx _ _ _ (nd_spec u h).1]; omega
theorem nd_le {u k : Nat} (hu : u < 18446744073709551616) (hk : 1 ≤ k) (h : u < 10 ^ k) : nd u ≤ k := by
  obtain ⟨a, b, c, d⟩ := nd_spec u hu
  by_cases lt : k < nd u
  · rcases d with d | d
    · omega
    · have : 10 ^ k ≤ 10 ^ (nd u - 1) := Nat.pow_le_pow_right (by omega) (by omega)
      omega
  · omega

/-- A row laid over a row from place i on. -/
def put (bs : List UInt8) (i : Nat) (l : List UInt8) : List UInt8 := bs.take i ++ l ++ bs.drop (i + l.length)
theorem put_length {bs : List UInt8} {i : Nat} {l : List UInt8} (h : i + l.length ≤ bs.length) : (put bs i l).length = bs.length := by
  simp [put]; omega
theorem put_nil (bs : List UInt8) (i : Nat) : put bs i [] = bs := by simp [put]
theorem put_snoc {bs : List UInt8} {i : Nat} {l : List UInt8} (c : UInt8) (h : i + l.length < bs.length) : put bs i (l ++ [c]) = (put bs i l).set (i + l.length) c := by
  unfold put
  have hl : (bs.take i ++ l).length = i + l.length := by simp; omega
  rw [List.set_append_right _ _ (by rw [hl]; omega), hl, Nat.sub_self]
  have : bs.drop (i + l.length) = bs[i + l.length] :: bs.drop (i + l.length + 1) := List.drop_eq_getElem_cons h
  rw [this, List.set_cons_zero]
  simp [Nat.add_assoc]
theorem put_cons {bs : List UInt8} {i : Nat} {l : List UInt8} (c : UInt8) (h : i + 1 + l.length ≤ bs.length) : put bs i (c :: l) = (put bs (i + 1) l).set i c := by
  unfold put
  have hl : (bs.take (i + 1)).length = i + 1 := by simp; omega
  rw [List.append_assoc, List.append_assoc, List.set_append_left _ _ (by omega)]
  have e : (bs.take (i + 1)).set i c = bs.take i ++ [c] := by
    rw [List.take_succ_eq_append_getElem (by omega), List.set_append_right _ _ (by simp; omega)]
    simp [show i - min i bs.length = 0 by omega]
  rw [e]
  simp [Nat.add_comm, Nat.add_left_comm]
theorem put_drop {bs : List UInt8} {i : Nat} {l : List UInt8} (h : i + l.length = bs.length) : (put bs i l).drop i = l := by
  unfold put
  rw [List.append_assoc, List.drop_append_of_le_length (by simp; omega), List.drop_of_length_le (by simp; omega), List.nil_append, h]
  simp
theorem set_take {bs : List UInt8} {i : Nat} (c : UInt8) (h : i < bs.length) : (bs.set i c).take (i + 1) = bs.take i ++ [c] := by
  rw [List.take_succ_eq_append_getElem (by simpa using h)]
  simp [List.take_set_of_le]
theorem put_take {bs : List UInt8} {i : Nat} {l : List UInt8} (h : i + l.length ≤ bs.length) : (put bs i l).take (i + l.length) = bs.take i ++ l := by
  unfold put
  have hl : (bs.take i ++ l).length = i + l.length := by simp; omega
  rw [List.take_append_of_le_length (by omega), List.take_of_length_le (by omega)]

end Go.Proofs.Qxb6500293aGreatRR
