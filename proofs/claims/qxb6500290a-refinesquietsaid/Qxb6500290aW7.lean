import Derived.Test.Qxb6500290aW6
namespace Go.Proofs.Qxb6500290a
open Go.RowKit
open Ieee (double)
attribute [local go_sem] run_frombits run_tobits run_negf

theorem itoa_nat (M : Nat) : itoaL (M : Int) = dec M := by
  unfold itoaL; rw [if_neg (by omega), Int.natAbs_natCast]
theorem itoa_dec (M : Nat) (w : World) (h : M ≤ 2 ^ 53) :
    Calls Try.prog 51 #[.int .i64 (M : Int)] w fun e w' => e = .returned (.string ⟨(dec M).toArray⟩) ∧ Below w.heap.size w w' := by
  have := itoa_any (M : Int) w (by omega) (by omega)
  rwa [itoa_nat] at this
theorem fromInt_nat (p : Value) (M : Nat) (w : World) :
    Calls Try.prog 18 #[p, .int .i64 (M : Int)] w fun e' w' => e' = .returned (.int .u64 (double.nearest false M 0 : Nat)) ∧ w' = w := by
  have := fromInt_any p (M : Int) w
  rwa [decide_eq_false (by omega), Int.natAbs_natCast] at this

set_option maxHeartbeats 1600000 in
theorem keptScale_out (n b : Nat) (m e f : Int) (w : World) (hn : NumW n b w) (h : m < 0 ∨ (0 ≤ m ∧ 9007199254740992 < m) ∨ (0 ≤ m ∧ m ≤ 9007199254740992 ∧ e < -9999) ∨ (0 ≤ m ∧ m ≤ 9007199254740992 ∧ -9999 ≤ e ∧ 9999 ≤ e)) :
    Calls Try.prog 29 #[.pointer (some ⟨n, 0, none⟩), .int .i64 m, .int .i64 e, .int .i64 f] w (Kp n b w) := by
  rcases h with h1 | ⟨h1, h2⟩ | ⟨h1, h2, h3⟩ | ⟨h1, h2, h3, h4⟩
  all_goals
    go_enter Try.func29, Try.ntmps29
    go_wp2
    go_ret
    exact kp_mk rfl (Stp.refl _ _) hn

set_option maxHeartbeats 1600000 in
theorem keptScale_up (n b M : Nat) (e f : Int) (w : World) (hn : NumW n b w) (hm : M ≤ 2 ^ 53) (he : -1074 ≤ e) (he2 : e ≤ 9998) (hf1 : -9223372036854775808 ≤ f) (hf2 : f ≤ 9223372036854775807) :
    Calls Try.prog 29 #[.pointer (some ⟨n, 0, none⟩), .int .i64 M, .int .i64 e, .int .i64 f] w (Kp n b w) := by
  have K1 := fun w hn => keptShift_any n b M e f w hn hm he he2 hf1 hf2
  have A1 := fun w => arith_valid (.pointer (some ⟨n, 0, none⟩)) 1 .add (by simp) _ _ _ w (Fl.add_twice false M e hm he) (order_nearest _ _ _)
  have P1 := parse_pow M e hm (by omega) (by omega)
  have P2 := parse_pow M (e + 1) hm (by omega) (by omega)
  have L1 := itoa_length (e := e) (by omega) (by omega)
  have L2 := itoa_length (e := e + 1) (by omega) (by omega)
  have L0 := dec_len16 hm
  have C1 : ({ data := (dec M).toArray } : ByteArray) ++ { data := #[112] } ++ { data := (itoaL e).toArray } = ⟨(dec M ++ 112 :: itoaL e).toArray⟩ := by
    have := str_append (dec M) [112]
    rw [this, str_append]; simp
  have C2 : ({ data := (dec M).toArray } : ByteArray) ++ { data := #[112] } ++ { data := (itoaL (e + 1)).toArray } = ⟨(dec M ++ 112 :: itoaL (e + 1)).toArray⟩ := by
    have := str_append (dec M) [112]
    rw [this, str_append]; simp
  have M1 : (dec M ++ 112 :: itoaL e).length ≤ 9223372036854775807 := by simp; omega
  have M2 : (dec M ++ 112 :: itoaL (e + 1)).length ≤ 9223372036854775807 := by simp; omega
  have Q1 := fun w => parse_any (.pointer (some ⟨n, 0, none⟩)) _ w M1
  have Q2 := fun w => parse_any (.pointer (some ⟨n, 0, none⟩)) _ w M2
  unfold ParseEnd at Q1 Q2
  rw [P1] at Q1
  rw [P2] at Q2
  generalize dec M ++ 112 :: itoaL e = S1 at *
  generalize dec M ++ 112 :: itoaL (e + 1) = S2 at *
  have I0 := fun w => itoa_dec M w hm
  have I1 := fun w => itoa_any e w (by omega) (by omega)
  have I2 := fun w => itoa_any (e + 1) w (by omega) (by omega)
  have F1 := fun w => fromInt_nat (.pointer (some ⟨n, 0, none⟩)) M w
  have hz : e = 0 → double.nearest false M e = double.nearest false M 0 := by rintro rfl; rfl
  generalize double.nearest false M (e + 1) = B at *
  generalize double.nearest false M e = V at *
  generalize double.nearest false M 0 = A at *
  clear P1 P2 M1 M2
  have KK : Hid (∀ (w : World), NumW n b w → Calls Try.prog 52 #[.pointer (some ⟨n, 0, none⟩), .string ⟨(dec M).toArray⟩, .int .i64 e, .int .i64 f, .int .u64 (V : Int)] w (Kp n b w)) := K1
  clear K1
  by_cases c : e = 0
  · have hva : V = A := hz c
    subst hva
    clear hz
    have ce : (e == 0) = true := by simp [c]
    have c1 : e ≤ 0 := by omega
    have c2 : 0 ≤ e := by omega
    clear c
    go_enter Try.func29, Try.ntmps29
    go_wp2_with fail
    refine (I0 _).mono ?_
    rintro x w1 ⟨rfl, hb1⟩
    go_wp2_with fail
    refine (I1 _).mono ?_
    rintro x w2 ⟨rfl, hb2⟩
    go_wp2_with fail
    refine (Q1 _).mono ?_
    rintro x w2' ⟨rfl, rfl⟩
    go_wp2_with fail
    refine (F1 _).mono ?_
    rintro x w3 ⟨rfl, rfl⟩
    go_wp2_with fail
    refine (I2 _).mono ?_
    rintro x w4 ⟨rfl, hb4⟩
    go_wp2_with fail
    refine (Q2 _).mono ?_
    rintro x w5 ⟨rfl, rfl⟩
    go_wp2_with fail
    refine (A1 _).mono ?_
    rintro x w6 ⟨rfl, rfl⟩
    go_wp2_with fail
    have hb : Below w.heap.size w _ := (hb1.trans (hb2.mono hb1.size)).trans (hb4.mono (Nat.le_trans hb1.size hb2.size))
    refine (KK.out _ (hn.below hb)).mono ?_
    rintro x w7 ⟨rfl, hs7, hn7⟩
    go_wp2
    go_ret
    exact kp_mk rfl ((Stp.of_below hb).trans hs7) hn7
  · have ce : (e == 0) = false := by simp [c]
    clear hz
    go_enter Try.func29, Try.ntmps29
    go_wp2_with fail
    refine (I0 _).mono ?_
    rintro x w1 ⟨rfl, hb1⟩
    go_wp2_with fail
    refine (I1 _).mono ?_
    rintro x w2 ⟨rfl, hb2⟩
    go_wp2_with fail
    refine (Q1 _).mono ?_
    rintro x w2' ⟨rfl, rfl⟩
    go_wp2_with fail
    refine (F1 _).mono ?_
    rintro x w3 ⟨rfl, rfl⟩
    go_wp2_with fail
    refine (I2 _).mono ?_
    rintro x w4 ⟨rfl, hb4⟩
    go_wp2_with fail
    refine (Q2 _).mono ?_
    rintro x w5 ⟨rfl, rfl⟩
    go_wp2_with fail
    refine (A1 _).mono ?_
    rintro x w6 ⟨rfl, rfl⟩
    go_wp2_with fail
    have hb : Below w.heap.size w _ := (hb1.trans (hb2.mono hb1.size)).trans (hb4.mono (Nat.le_trans hb1.size hb2.size))
    refine (KK.out _ (hn.below hb)).mono ?_
    rintro x w7 ⟨rfl, hs7, hn7⟩
    go_wp2
    go_ret
    exact kp_mk rfl ((Stp.of_below hb).trans hs7) hn7
set_option maxHeartbeats 1600000 in
theorem keptScale_down (n b M D : Nat) (e f : Int) (w : World) (hn : NumW n b w) (hm : M ≤ 2 ^ 53) (he : -9999 ≤ e) (hD : -1074 - e = (D : Int)) (hD1 : 1 ≤ D) :
    Calls Try.prog 29 #[.pointer (some ⟨n, 0, none⟩), .int .i64 M, .int .i64 e, .int .i64 f] w (Kp n b w) := by
  have he2 : e < -1074 := by omega
  have P1 := parse_pow M e hm (by omega) (by omega)
  have hV : double.nearest false M e = Fl.rne M D := by
    rw [Fl.nearest_sub M e hm he2, hD, Int.toNat_natCast]
  have L1 := itoa_length (e := e) (by omega) (by omega)
  have L0 := dec_len16 hm
  have C1 : ({ data := (dec M).toArray } : ByteArray) ++ { data := #[112] } ++ { data := (itoaL e).toArray } = ⟨(dec M ++ 112 :: itoaL e).toArray⟩ := by
    have := str_append (dec M) [112]
    rw [this, str_append]; simp
  have M1 : (dec M ++ 112 :: itoaL e).length ≤ 9223372036854775807 := by simp; omega
  have Q1 := fun w => parse_any (.pointer (some ⟨n, 0, none⟩)) _ w M1
  unfold ParseEnd at Q1
  rw [P1, hV] at Q1
  generalize dec M ++ 112 :: itoaL e = S1 at *
  have I0 := fun w => itoa_dec M w hm
  have I1 := fun w => itoa_any e w (by omega) (by omega)
  clear P1 M1 hV
  by_cases c54 : 54 ≤ D
  · have hz := rne_far M D hm c54
    rw [hz] at Q1
    clear hz
    go_enter Try.func29, Try.ntmps29
    go_wp2_with fail
    refine (I0 _).mono ?_
    rintro x w1 ⟨rfl, hb1⟩
    go_wp2_with fail
    refine (I1 _).mono ?_
    rintro x w2 ⟨rfl, hb2⟩
    go_wp2_with fail
    refine (Q1 _).mono ?_
    rintro x w2' ⟨rfl, rfl⟩
    go_wp2
    go_ret
    have hb : Below w.heap.size w _ := (hb1.trans (hb2.mono hb1.size))
    exact kp_mk rfl (Stp.of_below hb) (hn.below hb)
  · have hD2 : D ≤ 53 := by omega
    have hp : 0 < 2 ^ D := Nat.two_pow_pos D
    have hp2 : 2 ^ D = 2 * 2 ^ (D - 1) := by rw [← Nat.pow_succ']; congr 1; omega
    have hp3 : 2 ^ D ≤ 2 ^ 53 := Nat.pow_le_pow_right (by omega) hD2
    obtain ⟨W, hW⟩ : ∃ W : Nat, (M : Int) / 2 ^ D = (W : Int) := ⟨M / 2 ^ D, by simp⟩
    have HW : Hid (W = M / 2 ^ D) := by
      have : ((M / 2 ^ D : Nat) : Int) = (M : Int) / 2 ^ D := by simp
      show W = M / 2 ^ D
      omega
    have hWM : W ≤ M := by rw [HW.out]; exact Nat.div_le_self _ _
    have hdm : W * 2 ^ D + M % 2 ^ D = M := by rw [HW.out, Nat.mul_comm]; exact Nat.div_add_mod M (2 ^ D)
    obtain ⟨Z, hZ⟩ : ∃ Z : Nat, (W : Int) * 2 ^ D = (Z : Int) := ⟨W * 2 ^ D, by simp⟩
    have HZ : Hid (Z = W * 2 ^ D) := by
      have : ((W * 2 ^ D : Nat) : Int) = (W : Int) * 2 ^ D := by simp
      show Z = W * 2 ^ D
      omega
    have hZM : Z ≤ M := by rw [HZ.out]; omega
    obtain ⟨H, hH⟩ : ∃ H : Nat, (2 : Int) ^ (D - 1) = (H : Int) := ⟨2 ^ (D - 1), by simp⟩
    have HH : Hid (H = 2 ^ (D - 1)) := by
      have : ((2 ^ (D - 1) : Nat) : Int) = (2 : Int) ^ (D - 1) := by simp
      show H = 2 ^ (D - 1)
      omega
    have hH2 : H ≤ 2 ^ 53 := by rw [HH.out]; omega
    have hR : Hid (Fl.rne M D = if (H < M - Z ∨ (M - Z = H ∧ W % 2 = 1)) then W + 1 else W) := by
      show _ = _
      unfold Fl.rne
      rw [← HW.out, hp2, ← HH.out]
      have : M % (2 * H) = M - Z := by rw [HH.out, ← hp2, HZ.out]; omega
      rw [this]
      by_cases c : H < M - Z ∨ (M - Z = H ∧ W % 2 = 1)
      · rw [if_pos (by omega), if_pos c]
      · rw [if_neg (by omega), if_neg c]; rfl
    clear hp hp2 hp3 hdm
    have hand : bits .and .i64 (W : Int) 1 = ((W % 2 : Nat) : Int) := by
      have := i64_and_nat W 1 (by omega) (by omega)
      rw [nat_mask1] at this
      exact this
    have hodd : (W % 2 = 1 ∧ (bits .and .i64 (W : Int) 1 == 1) = true) ∨ (W % 2 = 0 ∧ (bits .and .i64 (W : Int) 1 == 1) = false) := by
      rw [hand]
      rcases Nat.mod_two_eq_zero_or_one W with h | h
      · right; rw [h]; exact ⟨rfl, rfl⟩
      · left; rw [h]; exact ⟨rfl, rfl⟩
    clear hand
    generalize Fl.rne M D = R at *
    rcases hodd with ⟨ho, hbo⟩ | ⟨ho, hbo⟩
    all_goals
      have HO : Hid (W % 2 = _) := ho
      clear ho
      go_enter Try.func29, Try.ntmps29
      go_wp2_with fail
      refine (I0 _).mono ?_
      rintro x w1 ⟨rfl, hb1⟩
      go_wp2_with fail
      refine (I1 _).mono ?_
      rintro x w2 ⟨rfl, hb2⟩
      go_wp2_with fail
      refine (Q1 _).mono ?_
      rintro x w2' ⟨rfl, rfl⟩
      go_wp2
      all_goals
        go_ret
        have hb : Below w.heap.size w _ := (hb1.trans (hb2.mono hb1.size))
        refine kp_mk ?_ (Stp.of_below hb) (hn.below hb)
        rw [beq_iff_eq, hR.out]
        have ho := HO.out
        split <;> omega

/-- numlaw.KeptScale. -/
theorem keptScale_any (n b : Nat) (m e f : Int) (w : World) (hn : NumW n b w) (hf1 : -9223372036854775808 ≤ f) (hf2 : f ≤ 9223372036854775807) :
    Calls Try.prog 29 #[.pointer (some ⟨n, 0, none⟩), .int .i64 m, .int .i64 e, .int .i64 f] w (Kp n b w) := by
  by_cases c : 0 ≤ m ∧ m ≤ 9007199254740992 ∧ -9999 ≤ e ∧ e < 9999
  · obtain ⟨c1, c2, c3, c4⟩ := c
    obtain ⟨M, rfl⟩ := Int.eq_ofNat_of_zero_le c1
    by_cases c5 : -1074 ≤ e
    · exact keptScale_up n b M e f w hn (by omega) c5 (by omega) hf1 hf2
    · exact keptScale_down n b M (-1074 - e).toNat e f w hn (by omega) c3 (by omega) (by omega)
  · exact keptScale_out n b m e f w hn (by omega)

end Go.Proofs.Qxb6500290a
