/-
  THE PLAIN LAWS of num's texts, more: T2 (whole numbers in decimal), T3 (what Parse takes), T4's rounding.
-/
import Derived.Test.Qxb6500293aGreatRRLw
namespace Go.Proofs.Qxb6500293aGreatRR
open Ieee (double)

/-! ### T2 -/
theorem same_whole {m W : Nat} {e : Int} (h : Fl.Same m e W 0) : Fl.Whole m e ∧ Fl.wholeOf m e = W := by
  unfold Fl.Same at h
  by_cases c : 0 ≤ e
  · refine ⟨.inl c, ?_⟩
    rw [show (e - min e 0).toNat = e.toNat from by omega, show ((0 : Int) - min e 0).toNat = 0 from by omega, Nat.pow_zero, Nat.mul_one] at h
    unfold Fl.wholeOf
    rw [h, show (-e).toNat = 0 from by omega, Nat.pow_zero, Nat.div_one]
  · rw [show (e - min e 0).toNat = 0 from by omega, show ((0 : Int) - min e 0).toNat = (-e).toNat from by omega, Nat.pow_zero, Nat.mul_one] at h
    refine ⟨.inr (by rw [h]; exact Nat.mul_mod_left _ _), ?_⟩
    unfold Fl.wholeOf
    rw [show e.toNat = 0 from by omega, Nat.pow_zero, Nat.mul_one, h]
    exact Nat.mul_div_cancel _ (Nat.two_pow_pos _)

/-- A whole number below 2^53: its word's text without the sign. -/
theorem fin_int (n : Nat) (h : n < 2 ^ 53) : double.nearest false n 0 < w53 ∧ finP (double.nearest false n 0) = dec n := by
  by_cases h0 : n = 0
  · subst h0
    rw [Fl.nearest_zero, Fl.word_false]
    refine ⟨whole_zero.1, ?_⟩
    unfold finP
    rw [if_pos whole_zero]
    unfold Fl.wholeOf
    rw [magM_zero.2 rfl, Nat.zero_mul, Nat.zero_div]
  · obtain ⟨E, fr, h1, h2, h3, h4, h5⟩ := Fl.ld_parts n h0 (by omega)
    have hE : n.log2 < 53 := Fl.log2_lt h0 h
    have hlt : double.nearest false n 0 < w53 := by unfold w53; omega
    refine ⟨hlt, ?_⟩
    have hr : double.nearest false n 0 < 2047 * 2 ^ 52 := by unfold w53 at hlt; omega
    obtain ⟨k, f, g1, g2, _⟩ := Fl.read_nearest false n 0 h0 (by omega) (by omega) (by omega)
    rw [read_mag hr] at g1
    simp only [Ieee.Datum.number.injEq, true_and] at g1
    rw [← g1.1, ← g1.2] at g2
    obtain ⟨a, b⟩ := same_whole g2
    unfold finP
    rw [if_pos ⟨hlt, a⟩, b]

theorem format_int (i : Int) (h1 : -2 ^ 53 < i) (h2 : i < 2 ^ 53) : fmtP (double.nearest (decide (i < 0)) i.natAbs 0) = itoaL i := by
  obtain ⟨a, b⟩ := fin_int i.natAbs (by omega)
  generalize hr : double.nearest false i.natAbs 0 = r at *
  have hw : r < 2047 * 2 ^ 52 := by unfold w53 at a; omega
  by_cases hn : i < 0
  · have e1 : double.nearest (decide (i < 0)) i.natAbs 0 = 2 ^ 63 + r := by
      rw [decide_eq_true hn]
      have h0 : i.natAbs ≠ 0 := by omega
      rw [Fl.nearest_eq _ _ _ h0, Fl.word_true, ← hr, Fl.nearest_eq _ _ _ h0, Fl.word_false]
    rw [e1]
    unfold fmtP sgP itoaL
    rw [show (2 ^ 63 + r) % 2 ^ 63 = r from by omega, if_neg (by omega), if_neg (by omega), if_pos (by omega), if_pos hn, b]
    rfl
  · rw [decide_eq_false hn, hr]
    unfold fmtP sgP itoaL
    rw [Nat.mod_eq_of_lt (by omega), if_neg (by omega), if_neg (by omega), if_neg (by omega), if_neg hn, b]
    rfl

/-! ### T3 -/
/-- How many digits stand ahead of 'p'. -/
def cnt (s : List UInt8) : Nat := ((s.takeWhile fun c => c != 112).filter isDigit).length

theorem cnt_nil : cnt [] = 0 := rfl
theorem cnt_p (r : List UInt8) : cnt (112 :: r) = 0 := by
  unfold cnt; rw [List.takeWhile_cons_of_neg (by decide)]; rfl
theorem cnt_other {c : UInt8} (r : List UInt8) (h : (c != 112) = true) (hd : isDigit c = false) : cnt (c :: r) = cnt r := by
  unfold cnt; rw [List.takeWhile_cons_of_pos (p := fun c => c != 112) h, List.filter_cons_of_neg (by simp [hd])]
theorem digit_ne_p {c : UInt8} (h : isDigit c = true) : (c != 112) = true := by
  rw [bne_iff_ne]; intro e; rw [e] at h; exact absurd h (by decide)
theorem cnt_digs (l r : List UInt8) (hl : ∀ c ∈ l, isDigit c = true) : cnt (l ++ r) = l.length + cnt r := by
  unfold cnt
  rw [List.takeWhile_append_of_pos (fun c hc => digit_ne_p (hl c hc)), List.filter_append, List.length_append, List.filter_eq_self.2 hl]

theorem digs_split (t : List UInt8) : t = digs t ++ t.drop (dg t 0) := by
  unfold dg digs
  rw [List.drop_zero]
  have h := List.takeWhile_append_dropWhile (p := isDigit) (l := t)
  have h2 : t.drop (t.takeWhile isDigit).length = t.dropWhile isDigit := by
    rw [show t.drop (t.takeWhile isDigit).length = (t.takeWhile isDigit ++ t.dropWhile isDigit).drop (t.takeWhile isDigit).length from by rw [h], List.drop_left]
  rw [h2, h]

theorem cnt_eq (t : List UInt8) : cnt t = dg t 0 + cnt (t.drop (dg t 0)) := by
  have := cnt_digs (digs t) (t.drop (dg t 0)) (digs_digits t)
  rw [← digs_split] at this
  rw [this]
  unfold dg; rw [List.drop_zero]

theorem drop_get {t : List UInt8} {i : Nat} {c : UInt8} (h : t[i]? = some c) : t.drop i = c :: t.drop (i + 1) := by
  obtain ⟨hl, he⟩ := List.getElem?_eq_some_iff.1 h
  rw [List.drop_eq_getElem_cons hl, he]

/-- What magnitude takes: its digits are counted; its word is no NaN and bears no sign. -/
theorem magP_some {t : List UInt8} {v : Nat} (h : magP t = some v) : cnt t ≤ 16 ∧ v ≤ 2047 * 2 ^ 52 := by
  by_cases h1 : t = [105, 110, 102]
  · subst h1
    unfold magP at h
    rw [if_pos rfl] at h
    cases h
    exact ⟨by decide, Nat.le_refl _⟩
  by_cases h2 : dg t 0 = 0 ∨ 16 < dg t 0
  · unfold magP at h; rw [if_neg h1, if_pos h2] at h; cases h
  have hc := cnt_eq t
  by_cases h5 : dg t 0 = t.length
  · unfold magP at h
    rw [if_neg h1, if_neg h2, if_pos h5] at h
    split at h
    · cases h
      refine ⟨?_, Fl.nearest_false_le _ _⟩
      rw [hc, h5, List.drop_length, cnt_nil]; omega
    · cases h
  by_cases h6 : t[dg t 0]? = some 46
  · rw [magP_dot h1 h2 h5 h6] at h
    split at h
    · cases h
    · rename_i hn
      have hk0 : dg t (dg t 0 + 1) ≠ 0 := fun c => hn (.inl c)
      have hk1 : dg t 0 + 1 + dg t (dg t 0 + 1) = t.length := by
        by_cases c : dg t 0 + 1 + dg t (dg t 0 + 1) = t.length
        · exact c
        · exact absurd (.inr (.inl c)) hn
      have hk2 : dg t 0 + dg t (dg t 0 + 1) ≤ 16 := by
        by_cases c : 16 < dg t 0 + dg t (dg t 0 + 1)
        · exact absurd (.inr (.inr (.inl c))) hn
        · omega
      have hk3 : nm t (dg t 0 + 1) (nm t 0 0) ≤ 2 ^ 53 := by
        by_cases c : 2 ^ 53 < nm t (dg t 0 + 1) (nm t 0 0)
        · exact absurd (.inr (.inr (.inr c))) hn
        · omega
      have hT : 10 ^ dg t (dg t 0 + 1) ≤ 10 ^ 15 := Nat.pow_le_pow_right (by omega) (by omega)
      have hT0 : 0 < 10 ^ dg t (dg t 0 + 1) := Nat.pow_pos (by omega)
      obtain ⟨q, hq, hq2⟩ := Fl.div_some _ _ hk3 (show 10 ^ dg t (dg t 0 + 1) ≤ 2 ^ 53 by omega) (by omega)
      rw [hq] at h
      cases h
      refine ⟨?_, hq2⟩
      rw [hc, drop_get h6, cnt_other _ (by decide) (by decide)]
      have hr : digs (t.drop (dg t 0 + 1)) = t.drop (dg t 0 + 1) := by
        have h7 : (digs (t.drop (dg t 0 + 1))).length = (t.drop (dg t 0 + 1)).length := by
          show dg t (dg t 0 + 1) = _
          simp; omega
        exact List.Sublist.eq_of_length (List.takeWhile_sublist _) h7
      have h8 := cnt_digs (digs (t.drop (dg t 0 + 1))) [] (digs_digits _)
      rw [List.append_nil, cnt_nil] at h8
      rw [hr] at h8
      rw [h8]
      have : (t.drop (dg t 0 + 1)).length = dg t (dg t 0 + 1) := by simp; omega
      omega
  by_cases h7 : t[dg t 0]? = some 112
  · have hcnt : cnt t ≤ 16 := by
      rw [hc, drop_get h7, cnt_p]; omega
    by_cases h8 : t[dg t 0 + 1]? = some 45
    · rw [magP_down h1 h2 h5 h7 h8] at h
      split at h
      · cases h
      · cases h; exact ⟨hcnt, Fl.nearest_false_le _ _⟩
    · rw [magP_up h1 h2 h5 h7 h8] at h
      split at h
      · cases h
      · cases h; exact ⟨hcnt, Fl.nearest_false_le _ _⟩
  · rw [magP_other h1 h2 h5 h6 h7] at h; cases h

/-- T3, whole. -/
theorem parse_shape (s : List UInt8) (hl : s.length ≤ 24) :
    ((parseP s).2 = 2 ∧ (parseP s).1 = 0) ∨ ((parseP s).2 = 0 ∧ cnt s ≤ 16 ∧ (parseP s).1 < 2 ^ 64 ∧ ((parseP s).1 % 2 ^ 63 ≤ 2047 * 2 ^ 52 ∨ (parseP s).1 = nanW)) := by
  unfold parseP
  rw [if_neg (by omega)]
  by_cases h1 : s = [110, 97, 110]
  · rw [if_pos h1]
    right
    subst h1
    exact ⟨rfl, by decide, by decide, .inr rfl⟩
  · rw [if_neg h1]
    by_cases h2 : s[0]? = some 45
    · rw [if_pos h2]
      cases hm : magP s.tail with
      | none => left; exact ⟨rfl, rfl⟩
      | some v =>
        obtain ⟨a, b⟩ := magP_some hm
        right
        have hs : s = 45 :: s.tail := by
          have := drop_get h2
          rw [List.drop_zero, List.drop_one] at this
          exact this
        refine ⟨rfl, ?_, ?_, .inl ?_⟩
        · rw [hs, cnt_other _ (by decide) (by decide)]; exact a
        · simp only; rw [xor_word _ (by omega)]; omega
        · simp only; rw [xor_word _ (by omega)]; omega
    · rw [if_neg h2]
      cases hm : magP s with
      | none => left; exact ⟨rfl, rfl⟩
      | some v =>
        obtain ⟨a, b⟩ := magP_some hm
        right
        exact ⟨rfl, a, by simp only; omega, .inl (by simp only; omega)⟩

/-! ### T4 -/
/-- Half a unit and less is nothing. -/
theorem rne_far (m d : Nat) (hm : m ≤ 2 ^ 53) (hd : 54 ≤ d) : Fl.rne m d = 0 := by
  have h1 : 2 ^ 54 ≤ 2 ^ d := Nat.pow_le_pow_right (by omega) hd
  by_cases c : 2 * m < 2 ^ d
  · exact Fl.rne_small c
  · unfold Fl.rne
    have h2 : m < 2 ^ d := by omega
    rw [Nat.div_eq_of_lt h2, Nat.mod_eq_of_lt h2, if_neg (by omega)]

end Go.Proofs.Qxb6500293aGreatRR
