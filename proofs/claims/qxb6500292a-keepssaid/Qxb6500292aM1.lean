import Derived.Test.Qxb6500292aW1
import Derived.Test.Qxb6500292aSf2
namespace Go.Proofs.Qxb6500292a
open Go.RowKit
open Ieee (double)

/-- The sign bit as a word. -/
def sgW (s : Bool) : Nat := if s then 9223372036854775808 else 0
theorem or_word (s : Bool) (r : Nat) (hr : r < 2 ^ 63) : bits .or .u64 (sgW s : Int) (r : Int) = (double.word s r : Int) := by
  have h : sgW s < 18446744073709551616 := by cases s <;> decide
  rw [u64_or_nat _ _ h (by omega)]
  cases s
  · rw [Fl.word_false, show sgW false = 0 from rfl, Nat.zero_or]
  · rw [Fl.word_true, show sgW true = 2 ^ 63 from rfl, nat_join 63 _ _ (by decide) hr]
theorem or_inf (s : Bool) : bits .or .u64 (sgW s : Int) 9218868437227405312 = (double.word s 9218868437227405312 : Int) := or_word s 9218868437227405312 (by decide)

theorem ret_nat {k : IntKind} {a b : Nat} (h : a = b) : Ending.returned (.int k (a : Int)) = .returned (.int k (b : Int)) := by rw [h]
/-- What a round's end comes to: q or one more. -/
theorem up_cases (M d Q R H : Nat) (st : Bool) (hQ : Q = M / 2 ^ d) (hR : R = M % 2 ^ d) (hH : H = 2 ^ (d - 1)) :
    (R < H ∧ Fl.up M d st = Q) ∨ (R = H ∧ st = true ∧ Fl.up M d st = Q + 1) ∨ (R = H ∧ st = false ∧ Q % 2 = 1 ∧ Fl.up M d st = Q + 1) ∨ (R = H ∧ st = false ∧ Q % 2 = 0 ∧ Fl.up M d st = Q) ∨ (H < R ∧ Fl.up M d st = Q + 1) := by
  unfold Fl.up
  rw [← hQ, ← hR, ← hH]
  rcases Nat.lt_trichotomy R H with c | c | c
  · left; exact ⟨c, by rw [if_neg (by omega)]; omega⟩
  · subst c
    cases st
    · rcases Nat.mod_two_eq_zero_or_one Q with o | o
      · right; right; right; left; exact ⟨rfl, rfl, o, by rw [if_neg (by simp; omega)]; omega⟩
      · right; right; left; exact ⟨rfl, rfl, o, by rw [if_pos (by simp; omega)]⟩
    · right; left; exact ⟨rfl, rfl, by rw [if_pos (by simp)]⟩
  · right; right; right; right; exact ⟨c, by rw [if_pos (.inl c)]⟩

theorem uand_1 (x : Nat) (hx : x < 18446744073709551616) : bits .and .u64 (x : Int) 1 = ((x % 2 : Nat) : Int) := by
  have := u64_and_nat x 1 hx (by omega)
  rw [nat_mask1] at this
  exact this

set_option maxHeartbeats 1600000 in
theorem pack_any (s : Bool) (man : Nat) (ex : Int) (st : Bool) (w : World) (hman : man < 18446744073709551616) (hx1 : -1000000 ≤ ex) (hx2 : ex ≤ 1000000) (hst : st = true → 2 ^ 53 ≤ man) :
    Calls Try.prog 73 #[.int .u64 (sgW s), .int .u64 man, .int .i64 ex, .bool st] w fun e w' => e = .returned (.int .u64 (Fl.packP s man ex st : Nat)) ∧ w' = w := by
  have hS := or_inf s
  have hSle : sgW s ≤ 9223372036854775808 := by cases s <;> decide
  rcases Nat.eq_zero_or_pos man with h0 | h0
  · subst h0
    have hst' : st = false := by cases st with | false => rfl | true => exact absurd (hst rfl) (by decide)
    subst hst'
    have hp : Hid (Fl.packP s 0 ex false = sgW s) := by
      show _ = _
      unfold Fl.packP
      rw [if_neg (by simp), Fl.nearest_zero]
      cases s
      · rw [Fl.word_false]; rfl
      · rw [Fl.word_true]; rfl
    go_enter Try.func73, Try.ntmps73
    go_wp2
    go_ret
    exact ⟨by rw [hp.out]; rfl, rfl⟩
  · have em : ((man : Int) == 0) = false := by rw [beq_eq_false_iff_ne]; omega
    generalize hSS : sgW s = S at *
    go_enter Try.func73, Try.ntmps73
    go_wp2
    go_loop [1, 2] (fun m e => ∃ z M : Nat, m = .int .u64 (M : Int) ∧ e = .int .i64 (ex - z) ∧ M < 18446744073709551616 ∧ z ≤ 63 ∧ Hid (M = man * 2 ^ z)) (fun m _ => 18446744073709551616 - (intOf m).toNat)
    case atStart => exact ⟨0, man, rfl, by simp, hman, by omega, show man = man * 2 ^ 0 by simp⟩
    case round =>
      obtain ⟨z, M, rfl, rfl, hM, hz, HM⟩ := hrel
      have hM0 : 0 < M := by rw [HM.out]; exact Nat.mul_pos h0 (Nat.two_pow_pos z)
      have hand := and_sign M hM
      by_cases c : M < 9223372036854775808
      · rw [Nat.div_eq_of_lt (show M < 2 ^ 63 by omega), Nat.zero_mul] at hand
        have hz2 : z < 63 := by
          by_cases c2 : z < 63
          · exact c2
          · have : z = 63 := by omega
            subst this
            have := HM.out
            omega
        go_wp2
        go_round
        case rel => exact ⟨z + 1, M * 2, by go_num, by congr 1; omega, by omega, by omega, show M * 2 = man * 2 ^ (z + 1) by rw [Nat.pow_succ, ← Nat.mul_assoc, ← HM.out]⟩
        case measure => simp [intOf]; omega
      · have hand1 : (bits .and .u64 (M : Int) 9223372036854775808 == 0) = false := by
          rw [hand, beq_eq_false_iff_ne]; omega
        have hP : Hid (Fl.packP s man ex st = Fl.packP s M (ex - z) st) := by
          show _ = _
          rw [HM.out, Fl.pack_shift s man z ex st hst]
        clear hand HM
        by_cases cA : 1023 < ex - z + 63
        · have hP2 : Hid (Fl.packP s man ex st = double.word s 9218868437227405312) := by
            show _ = _; rw [hP.out, Fl.pack_inf s M _ st (by omega) (by omega) cA]
          clear hP
          go_wp2
          go_ret
          exact ⟨ret_nat (by rw [hP2.out]), rfl⟩
        · by_cases cB : -1022 ≤ ex - z + 63
          · obtain ⟨Q, hQ⟩ : ∃ Q : Nat, Q = M / 2 ^ 11 := ⟨_, rfl⟩
            obtain ⟨R, hR⟩ : ∃ R : Nat, R = M % 2 ^ 11 := ⟨_, rfl⟩
            have hq : (M : Int) / 2048 = (Q : Int) := by omega
            have hr : bits .and .u64 (M : Int) 2047 = (R : Int) := by rw [uand_2047 M hM]; omega
            have hodd := uand_1 Q (by omega)
            have hP2 : Hid (Fl.packP s man ex st = double.word s (min ((ex - z + 63 + 1022).toNat * 2 ^ 52 + Fl.up M 11 st) (2047 * 2 ^ 52))) := by
              show _ = _; rw [hP.out, Fl.pack_normal s M (ex - z + 63 + 1022).toNat _ st (by omega) (by omega) (by omega)]
            have hcs := up_cases M 11 Q R 1024 st hQ hR rfl
            have hQb : Q < 9007199254740992 := by omega
            clear hP hR
            have hRR : ∃ q' RR : Nat, (q' = Q ∨ q' = Q + 1) ∧ Fl.up M 11 st = q' ∧ (ex - (z : Int) + 63 + 1022) * 4503599627370496 + (q' : Int) = (RR : Int) := by
              refine ⟨Fl.up M 11 st, (ex - z + 63 + 1022).toNat * 2 ^ 52 + Fl.up M 11 st, by omega, rfl, by omega⟩
            obtain ⟨q', RR, hq', hup, hRR⟩ := hRR
            have hP3 : Hid (Fl.packP s man ex st = double.word s (min RR (2047 * 2 ^ 52))) := by
              show _ = _
              rw [hP2.out, hup]
              congr 2; omega
            have hRb : RR < 2 ^ 63 := by omega
            have hor := or_word s RR hRb
            rw [hSS] at hor
            rw [hup] at hcs
            clear hP2 hup hQ
            have hfin : ∀ {x : Nat}, (RR < 9218868437227405312 → x = double.word s RR) → (9218868437227405312 ≤ RR → x = double.word s 9218868437227405312) → x = Fl.packP s man ex st := by
              intro x f1 f2
              rw [hP3.out]
              by_cases c : RR < 9218868437227405312
              · rw [f1 c, Nat.min_eq_left (by omega)]
              · rw [f2 (by omega), Nat.min_eq_right (by omega)]
            have HF : Hid (∀ {x : Nat}, (RR < 9218868437227405312 → x = double.word s RR) → (9218868437227405312 ≤ RR → x = double.word s 9218868437227405312) → x = Fl.packP s man ex st) := hfin
            clear hfin hP3 hq'
            have hge : (RR < 9218868437227405312 ∧ decide (9218868437227405312 ≤ (RR : Int)) = false) ∨ (9218868437227405312 ≤ RR ∧ decide (9218868437227405312 ≤ (RR : Int)) = true) := by
              by_cases c : RR < 9218868437227405312
              · exact .inl ⟨c, decide_eq_false (by omega)⟩
              · exact .inr ⟨by omega, decide_eq_true (by omega)⟩
            rcases hcs with ⟨c1, c2⟩ | ⟨c1, c2, c3⟩ | ⟨c1, c2, c3, c4⟩ | ⟨c1, c2, c3, c4⟩ | ⟨c1, c2⟩
            · subst c2
              clear hodd
              rcases hge with ⟨g1, g2⟩ | ⟨g1, g2⟩
              all_goals try (exfalso; omega)
              all_goals
                go_wp2
                go_ret
                exact ⟨ret_nat (HF.out (fun _ => by first | rfl | omega) (fun _ => by first | rfl | omega)), rfl⟩
            · have hRR2 : (ex - (z : Int) + 63 + 1022) * 4503599627370496 + ((Q : Int) + 1) = (RR : Int) := by omega
              subst c1
              subst c2
              clear hRR c3 hodd
              rcases hge with ⟨g1, g2⟩ | ⟨g1, g2⟩
              all_goals try (exfalso; omega)
              all_goals
                go_wp2
                go_ret
                exact ⟨ret_nat (HF.out (fun _ => by first | rfl | omega) (fun _ => by first | rfl | omega)), rfl⟩
            · have hRR2 : (ex - (z : Int) + 63 + 1022) * 4503599627370496 + ((Q : Int) + 1) = (RR : Int) := by omega
              have ho : (bits .and .u64 (Q : Int) 1 == 1) = true := by rw [hodd, c3]; rfl
              subst c1
              subst c2
              clear hRR c4 hodd c3
              rcases hge with ⟨g1, g2⟩ | ⟨g1, g2⟩
              all_goals try (exfalso; omega)
              all_goals
                go_wp2
                go_ret
                exact ⟨ret_nat (HF.out (fun _ => by first | rfl | omega) (fun _ => by first | rfl | omega)), rfl⟩
            · have ho : (bits .and .u64 (Q : Int) 1 == 1) = false := by rw [hodd, c3]; rfl
              subst c1
              subst c2
              subst c4
              clear hodd c3
              rcases hge with ⟨g1, g2⟩ | ⟨g1, g2⟩
              all_goals try (exfalso; omega)
              all_goals
                go_wp2
                go_ret
                exact ⟨ret_nat (HF.out (fun _ => by first | rfl | omega) (fun _ => by first | rfl | omega)), rfl⟩
            · have hRR2 : (ex - (z : Int) + 63 + 1022) * 4503599627370496 + ((Q : Int) + 1) = (RR : Int) := by omega
              clear hRR c2 hodd
              rcases hge with ⟨g1, g2⟩ | ⟨g1, g2⟩
              all_goals try (exfalso; omega)
              all_goals
                go_wp2
                go_ret
                exact ⟨ret_nat (HF.out (fun _ => by first | rfl | omega) (fun _ => by first | rfl | omega)), rfl⟩
          · obtain ⟨D, hD⟩ : ∃ D : Nat, 11 + (-1022 - (ex - (z : Int) + 63)) = (D : Int) := ⟨(11 + (-1022 - (ex - (z : Int) + 63))).toNat, by omega⟩
            have hP2 : Hid (Fl.packP s man ex st = double.word s (min (Fl.up M D st) (2047 * 2 ^ 52))) := by
              show _ = _; rw [hP.out, Fl.pack_sub s M D _ st (by omega) (by omega) (by omega) (by omega)]
            have hD12 : 12 ≤ D := by omega
            have hDb : D ≤ 2000000 := by omega
            have hupb := Fl.up_lt M D st (by omega) (by omega)
            clear hP
            by_cases cF : 64 < D
            · have hP3 : Hid (Fl.packP s man ex st = S) := by
                show _ = _
                rw [hP2.out, Fl.up_far M D st (by omega) cF, Nat.zero_min, ← hSS]
                cases s
                · rw [Fl.word_false]; rfl
                · rw [Fl.word_true]; rfl
              clear hP2 hupb
              go_wp2
              go_ret
              exact ⟨ret_nat (by rw [hP3.out]), rfl⟩
            · obtain ⟨Q, hQ⟩ : ∃ Q : Nat, Q = M / 2 ^ D := ⟨_, rfl⟩
              obtain ⟨R, hR⟩ : ∃ R : Nat, R = M % 2 ^ D := ⟨_, rfl⟩
              obtain ⟨H, hH⟩ : ∃ H : Nat, H = 2 ^ (D - 1) := ⟨_, rfl⟩
              have hcs := up_cases M D Q R H st hQ hR hH
              have hQb : Q ≤ 9007199254740992 := by omega
              obtain ⟨q', hup⟩ : ∃ q' : Nat, Fl.up M D st = q' := ⟨_, rfl⟩
              rw [hup] at hcs hupb
              have hor := or_word s q' (by omega)
              rw [hSS] at hor
              have HF : Hid (Fl.packP s man ex st = double.word s q') := by
                show _ = _
                rw [hP2.out, hup, Nat.min_eq_left (by omega)]
              have hge : decide (9218868437227405312 ≤ (q' : Int)) = false := decide_eq_false (by omega)
              have hodd := uand_1 Q (by omega)
              clear hP2 hup
              by_cases c64 : D = 64
              · have hQ0 : Q = 0 := by rw [hQ, c64]; exact Nat.div_eq_of_lt (by omega)
                have hRM : R = M := by rw [hR, c64]; exact Nat.mod_eq_of_lt (by omega)
                have hH63 : H = 9223372036854775808 := by rw [hH, c64]
                subst c64
                rw [hQ0, hRM, hH63] at hcs
                rw [hQ0] at hodd
                have hor1 : bits .or .u64 (S : Int) 1 = (double.word s 1 : Int) := by
                  have := or_word s 1 (by decide)
                  rw [hSS] at this; exact this
                have hor0 : bits .or .u64 (S : Int) 0 = (double.word s 0 : Int) := by
                  have := or_word s 0 (by decide)
                  rw [hSS] at this; exact this
                clear hQ hR hH hQ0 hRM hH63 hQb hor hge hupb
                rcases hcs with ⟨c1, c2⟩ | ⟨c1, c2, c3⟩ | ⟨c1, c2, c3, c4⟩ | ⟨c1, c2, c3, c4⟩ | ⟨c1, c2⟩
                · exfalso; omega
                · subst c2
                  subst c3
                  have m1 : ((M : Int) == 9223372036854775808) = true := by rw [beq_iff_eq]; omega
                  have m2 : M ≤ 9223372036854775808 := by omega
                  clear c1 hodd
                  go_wp2
                  go_ret
                  exact ⟨ret_nat (by rw [HF.out]), rfl⟩
                · exfalso; omega
                · subst c2
                  subst c4
                  have m1 : ((M : Int) == 9223372036854775808) = true := by rw [beq_iff_eq]; omega
                  have m2 : M ≤ 9223372036854775808 := by omega
                  have ho : (bits .and .u64 0 1 == 1) = false := by decide +kernel
                  clear c1 hodd c3
                  go_wp2
                  go_ret
                  exact ⟨ret_nat (by rw [HF.out]), rfl⟩
                · have m1 : ((M : Int) == 9223372036854775808) = false := by rw [beq_eq_false_iff_ne]; omega
                  subst c2
                  clear hodd
                  go_wp2
                  go_ret
                  exact ⟨ret_nat (by rw [HF.out]), rfl⟩
              · have hD63 : D ≤ 63 := by omega
                obtain ⟨T, hT⟩ : ∃ T : Nat, T = 2 ^ D := ⟨_, rfl⟩
                have hT1 : (2 : Int) ^ D = (T : Int) := by rw [hT]; simp
                have hq : (M : Int) / (T : Int) = (Q : Int) := by rw [hQ, hT]; simp
                have hTb : T ≤ 9223372036854775808 := by rw [hT]; exact Nat.pow_le_pow_right (n := 2) (by omega) hD63
                have hT0 : 1 ≤ T := by rw [hT]; exact Nat.one_le_two_pow
                have hH1 : (2 : Int) ^ (D - 1) = (H : Int) := by rw [hH]; simp
                have hTH : T = 2 * H := by rw [hT, hH, ← Nat.pow_succ']; congr 1; omega
                have hr : bits .and .u64 (M : Int) ((T : Int) - 1) = (R : Int) := by
                  have := u64_and_nat M (T - 1) hM (by omega)
                  rw [show ((T - 1 : Nat) : Int) = (T : Int) - 1 from by omega] at this
                  rw [this, hT, Nat.and_two_pow_sub_one_eq_mod, hR]
                have hRM : R ≤ M := by rw [hR]; exact Nat.mod_le _ _
                have hHb : H ≤ 9223372036854775808 := by omega
                have c64' : ((D : Int) == 64) = false := by rw [beq_eq_false_iff_ne]; omega
                clear hQ hR hH hT c64
                rcases hcs with ⟨c1, c2⟩ | ⟨c1, c2, c3⟩ | ⟨c1, c2, c3, c4⟩ | ⟨c1, c2, c3, c4⟩ | ⟨c1, c2⟩
                · subst c2
                  have m1 : ((R : Int) == (H : Int)) = false := by rw [beq_eq_false_iff_ne]; omega
                  clear hodd hTH
                  go_wp2
                  go_ret
                  exact ⟨ret_nat (by rw [HF.out]), rfl⟩
                · subst c1
                  subst c2
                  subst c3
                  have hor2 : bits .or .u64 (S : Int) ((Q : Int) + 1) = (double.word s (Q + 1) : Int) := hor
                  have hge2 : decide (9218868437227405312 ≤ (Q : Int) + 1) = false := hge
                  clear hodd hTH hor hge
                  go_wp2
                  go_ret
                  exact ⟨ret_nat (by rw [HF.out]), rfl⟩
                · subst c1
                  subst c2
                  subst c4
                  have hor2 : bits .or .u64 (S : Int) ((Q : Int) + 1) = (double.word s (Q + 1) : Int) := hor
                  have hge2 : decide (9218868437227405312 ≤ (Q : Int) + 1) = false := hge
                  have ho : (bits .and .u64 (Q : Int) 1 == 1) = true := by rw [hodd, c3]; rfl
                  clear hodd hTH hor hge c3
                  go_wp2
                  go_ret
                  exact ⟨ret_nat (by rw [HF.out]), rfl⟩
                · subst c1
                  subst c2
                  subst c4
                  have ho : (bits .and .u64 (q' : Int) 1 == 1) = false := by rw [hodd, c3]; rfl
                  clear hodd hTH c3
                  go_wp2
                  go_ret
                  exact ⟨ret_nat (by rw [HF.out]), rfl⟩
                · subst c2
                  have hor2 : bits .or .u64 (S : Int) ((Q : Int) + 1) = (double.word s (Q + 1) : Int) := hor
                  have hge2 : decide (9218868437227405312 ≤ (Q : Int) + 1) = false := hge
                  have m1 : ((R : Int) == (H : Int)) = false := by rw [beq_eq_false_iff_ne]; omega
                  clear hodd hTH hor hge
                  go_wp2
                  go_ret
                  exact ⟨ret_nat (by rw [HF.out]), rfl⟩
end Go.Proofs.Qxb6500292a
