import Derived.Test.Qxb6500293aGreatRRW2b
namespace Go.Proofs.Qxb6500293aGreatRR
open Go.RowKit
open Ieee (double)
attribute [local go_sem] run_frombits run_tobits run_negf

/-- A Num: block n holds the slice over block b, 24 bytes. -/
def NumAt (n b : Nat) (w : World) : Prop := w.heap[n]? = some (.cells #[.slice (some ⟨b, 0, none⟩) 24 24] 110)
theorem NumAt.cell {n b : Nat} {w : World} (h : NumAt n b w) : w.cell? ⟨n, 0, none⟩ = some (.slice (some ⟨b, 0, none⟩) 24 24) := by
  unfold NumAt at h
  simp [World.cell?, h]

set_option maxHeartbeats 400000 in
theorem format_nan (n : Value) (x : Nat) (w : World) (h : 2047 * 2 ^ 52 < x % 2 ^ 63) :
    Calls Tryz.prog 122 #[n, .int .u64 x] w fun e w' => e = .returned (.string ⟨([110, 97, 110] : List UInt8).toArray⟩) ∧ w' = w := by
  have q1 : FloatKind.f64.format.order x x = none := Fl.order_nan_left h
  go_enter Tryz.func122, Tryz.ntmps122
  go_wp2
  go_ret
  exact ⟨rfl, rfl⟩

set_option maxHeartbeats 400000 in
theorem format_inf (n : Value) (w : World) :
    Calls Tryz.prog 122 #[n, .int .u64 9218868437227405312] w fun e w' => e = .returned (.string ⟨([105, 110, 102] : List UInt8).toArray⟩) ∧ w' = w := by
  have q1 : FloatKind.f64.format.order 9218868437227405312 9218868437227405312 = some .eq := by decide +kernel
  have q2 : FloatKind.f64.format.order 9218868437227405312 9218868437227405311 = some .gt := by decide +kernel
  go_enter Tryz.func122, Tryz.ntmps122
  go_wp2
  go_ret
  exact ⟨rfl, rfl⟩

set_option maxHeartbeats 400000 in
theorem format_ninf (n : Value) (w : World) :
    Calls Tryz.prog 122 #[n, .int .u64 18442240474082181120] w fun e w' => e = .returned (.string ⟨([45, 105, 110, 102] : List UInt8).toArray⟩) ∧ w' = w := by
  have q1 : FloatKind.f64.format.order 18442240474082181120 18442240474082181120 = some .eq := by decide +kernel
  have q2 : FloatKind.f64.format.order 18442240474082181120 9218868437227405311 = some .lt := by decide +kernel
  have q3 : FloatKind.f64.format.order 18442240474082181120 18442240474082181119 = some .lt := by decide +kernel
  go_enter Tryz.func122, Tryz.ntmps122
  go_wp2
  go_ret
  exact ⟨rfl, rfl⟩


theorem BB.convPut {t : TypeId} {b : Nat} {bs l : List UInt8} {i : Nat} {w : World} (h : BB t b (put bs i l) w) (hi : i + l.length ≤ bs.length) {n c : Nat} (hn : n = i + l.length) :
    (convert 59 9 (.slice (some ⟨b, 0, none⟩) n c)).run Tryz.prog w = .ok (.string ⟨(bs.take i ++ l).toArray⟩) w := by
  subst hn
  rw [h.conv (by rw [put_length hi]; omega), List.drop_zero, put_take hi]

theorem order_not_above {x : Nat} (hx : x < 2047 * 2 ^ 52) : (FloatKind.f64.format.order x 9218868437227405311 == some .gt) = false := by
  rw [order_eq, Fl.order_pos (by omega) (by decide), beq_eq_false_iff_ne]
  intro h
  rcases Int.lt_trichotomy (x : Int) ((9218868437227405311 : Nat) : Int) with c | c | c
  · rw [Fl.cmp_lt c] at h; simp at h
  · rw [Fl.cmp_eq c] at h; simp at h
  · omega
theorem order_not_below {x : Nat} (hx : x < 2047 * 2 ^ 52) : (FloatKind.f64.format.order x 18442240474082181119 == some .lt) = false := by
  have e : (18442240474082181119 : Nat) = double.word true 9218868437227405311 := by rw [Fl.word_true]
  have e2 : x = double.word false x := (Fl.word_false x).symm
  rw [order_eq, e, e2, Fl.order_word false true (by omega) (by decide), Fl.cmp_gt (by unfold Fl.sg; simp; omega)]; rfl
theorem order_neg_not_above {r : Nat} (hx : r < 2047 * 2 ^ 52) : (FloatKind.f64.format.order (2 ^ 63 + r) 9218868437227405311 == some .gt) = false := by
  have e : (9218868437227405311 : Nat) = double.word false 9218868437227405311 := by rw [Fl.word_false]
  rw [order_eq, e, ← Fl.word_true r, Fl.order_word true false (by omega) (by decide), Fl.cmp_lt (by unfold Fl.sg; simp; omega)]; rfl
theorem order_neg_not_below {r : Nat} (hx : r < 2047 * 2 ^ 52) : (FloatKind.f64.format.order (2 ^ 63 + r) 18442240474082181119 == some .lt) = false := by
  have e : (18442240474082181119 : Nat) = double.word true 9218868437227405311 := by rw [Fl.word_true]
  rw [order_eq, e, ← Fl.word_true r, Fl.order_word true true (by omega) (by decide), beq_eq_false_iff_ne]
  intro h
  rcases Int.lt_trichotomy (Fl.sg true r) (Fl.sg true 9218868437227405311) with c | c | c
  · unfold Fl.sg at c; simp at c; omega
  · rw [Fl.cmp_eq c] at h; simp at h
  · rw [Fl.cmp_gt c] at h; simp at h
theorem order_53_lt {r : Nat} (h : r < w53) : FloatKind.f64.format.order r 4845873199050653696 = some .lt := by
  unfold w53 at h
  rw [order_eq, Fl.order_pos (by omega) (by decide), Fl.cmp_lt (by omega)]
theorem order_53_not {r : Nat} (h : ¬ r < w53) (h2 : r < 2047 * 2 ^ 52) : (FloatKind.f64.format.order r 4845873199050653696 == some .lt) = false := by
  unfold w53 at h
  rw [order_eq, Fl.order_pos (by omega) (by decide), beq_eq_false_iff_ne]
  intro hh
  rcases Int.lt_trichotomy (r : Int) ((4845873199050653696 : Nat) : Int) with c | c | c
  · omega
  · rw [Fl.cmp_eq c] at hh; simp at hh
  · rw [Fl.cmp_gt c] at hh; simp at hh

set_option maxHeartbeats 800000 in
theorem format_whole_pos (n b : Nat) (bs : List UInt8) (x v : Nat) (w : World) (hn : NumAt n b w) (hb : BB 5 b bs w) (hlen : bs.length = 24)
   (hx : x < 2047 * 2 ^ 52) (h53 : x < w53) (hv : v < 2 ^ 53)
   (hfl : FloatKind.f64.format.order x (double.write ((double.read x).integral .down)) = some .eq)
   (hti : floatToIntVal .f64 x .u64 = some (v : Int)) :
    Calls Tryz.prog 122 #[.pointer (some ⟨n, 0, none⟩), .int .u64 x] w fun e w' => e = .returned (.string ⟨(dec v).toArray⟩) ∧ (∃ bs', BB 5 b bs' w' ∧ bs'.length = 24) ∧ Stp b w w' := by
  have q1 := order_self x (by omega) (by omega)
  have q2 := order_not_above hx
  have q3 := order_not_below hx
  have q4 := order_53_lt h53
  have hc := hn.cell
  have q5 := fun w => run_convert_float_int (P := Tryz.prog) w 141 31 .f64 .u64 x v (by kernel_rfl) Tryz.underlying31 hti
  have hnd : nd v ≤ 16 := nd_le (by omega) (by omega) (Nat.lt_trans hv (by decide))
  have hdl := dec_length v
  have HD : Hid ((dec v).length = nd v) := hdl
  clear hdl
  go_enter Tryz.func122, Tryz.ntmps122
  go_wp2_with (first | (go_at_call 124; refine (floor_any x _ (by omega)).mono ?_; rintro e w' ⟨rfl, rfl⟩) | (go_at_call 126; refine (lay_any b bs 0 v _ (by omega) hb hlen (by omega)).mono ?_; rintro e w' ⟨rfl, hb2, hs2⟩; have hcv := hb2.convPut (by rw [HD.out]; omega) (n := nd v) (c := 24) (by rw [HD.out]; omega)))
  go_ret
  exact ⟨by simp, ⟨_, hb2, by rw [put_length (by rw [HD.out]; omega), hlen]⟩, hs2⟩

set_option maxHeartbeats 800000 in
theorem format_whole_neg (n b : Nat) (bs : List UInt8) (r v : Nat) (w : World) (hn : NumAt n b w) (hb : BB 5 b bs w) (hlen : bs.length = 24)
   (hx : r < 2047 * 2 ^ 52) (h53 : r < w53) (hv : v < 2 ^ 53)
   (hfl : FloatKind.f64.format.order r (double.write ((double.read r).integral .down)) = some .eq)
   (hti : floatToIntVal .f64 r .u64 = some (v : Int)) :
    Calls Tryz.prog 122 #[.pointer (some ⟨n, 0, none⟩), .int .u64 ((2 ^ 63 + r : Nat) : Int)] w fun e w' => e = .returned (.string ⟨(45 :: dec v).toArray⟩) ∧ (∃ bs', BB 5 b bs' w' ∧ bs'.length = 24) ∧ Stp b w w' := by
  have q1 := order_self (2 ^ 63 + r) (by omega) (by omega)
  have q2 := order_neg_not_above hx
  have q3 := order_neg_not_below hx
  have q6 : flip (2 ^ 63 + r) = r := by unfold flip; rw [xor_sign _ (by omega), if_neg (by omega)]; omega
  generalize hX : 2 ^ 63 + r = X at *
  have q4 := order_53_lt h53
  have hc := hn.cell
  have hc0 := hb.cell (i := 0) (by omega)
  have hf0 := hb.frozen 0
  have q5 := fun w => run_convert_float_int (P := Tryz.prog) w 141 31 .f64 .u64 r v (by kernel_rfl) Tryz.underlying31 hti
  have hnd : nd v ≤ 16 := nd_le (by omega) (by omega) (Nat.lt_trans hv (by decide))
  have hdl := dec_length v
  have HD : Hid ((dec v).length = nd v) := hdl
  have hX2 : (X : Int) = 9223372036854775808 + r := by omega
  have HX : Hid ((X : Int) = 9223372036854775808 + r) := hX2
  have hX3 : 9223372036854775808 ≤ X := by omega
  have hX4 : X < 18446744073709551616 := by omega
  have hb1 : BB 5 b (bs.set 0 45) (w.setCell ⟨b, 0, none⟩ (.int .u8 45)) := hb.set 0 (n := 45) (by omega) (by omega)
  have hst1 : Stp b w (w.setCell ⟨b, 0, none⟩ (.int .u8 45)) := (Stp.refl b w).setCell (.inl rfl) _
  have hlen1 : (bs.set 0 45).length = 24 := by simp [hlen]
  have htk : Hid ((bs.set 0 45).take 1 = [45]) := by
    match bs, hlen with
    | _ :: _, _ => rfl
  clear hdl hX hX2
  go_enter Tryz.func122, Tryz.ntmps122
  go_wp2_with (first | (go_at_call 124; refine (floor_any r _ (by omega)).mono ?_; rintro e w' ⟨rfl, rfl⟩) | (go_at_call 126; refine (lay_any b (bs.set 0 45) 1 v _ (by omega) hb1 hlen1 (by omega)).mono ?_; rintro e w' ⟨rfl, hb2, hs2⟩; have hcv := hb2.convPut (by rw [HD.out]; omega) (n := 1 + nd v) (c := 24) (by rw [HD.out])))
  go_ret
  exact ⟨by rw [htk.out]; rfl, ⟨_, hb2, by rw [put_length (by rw [HD.out]; omega), hlen1]⟩, hst1.trans hs2⟩

set_option maxHeartbeats 3200000 in
theorem format_frac_pos (n b : Nat) (bs : List UInt8) (x fr K M : Nat) (E : Int) (w : World) (hn : NumAt n b w) (hb0 : BB 5 b bs w) (hlen : bs.length = 24)
   (hx : x < 2047 * 2 ^ 52) (hfr : ¬ (x < w53 ∧ FloatKind.f64.format.order x (double.write ((double.read x).integral .down)) = some .eq))
   (qm : bits .and .u64 (x : Int) (bits .xor .u64 IntKind.u64.max ((x : Int) / 4503599627370496 * 4503599627370496)) = (fr : Int))
   (qk : bits .and .u64 ((x : Int) / 4503599627370496) 2047 = (K : Int)) (hK : K < 2047) (hK53 : ¬ x < w53 → 0 < K) (hM0 : 0 < M) (hM : M < 2 ^ 53)
   (hE : (K = 0 ∧ M = fr ∧ E = -1074) ∨ (0 < K ∧ bits .or .u64 (fr : Int) 4503599627370496 = (M : Int) ∧ E = K - 1075)) :
    Calls Tryz.prog 122 #[.pointer (some ⟨n, 0, none⟩), .int .u64 x] w fun e w' => e = .returned (.string ⟨([] ++ (dec (M / 2 ^ tz M) ++ [112] ++ itoaL (E + tz M))).toArray⟩) ∧ (∃ bs', BB 5 b bs' w' ∧ bs'.length = 24) ∧ Stp b w w' := by
  have q1 := order_self x (by omega) (by omega)
  have q2 := order_not_above hx
  have q3 := order_not_below hx
  have hb := hb0
  have hs1 : Stp b w w := Stp.refl _ _
  have htk : Hid (bs.take 0 = []) := rfl
  have hlen1 := hlen
  clear hb0
  have hc := hn.cell
  have hsg : IntKind.u64.signed = false := rfl
  have hE1 : -1074 ≤ E := by omega
  have hE2 : E ≤ 971 := by omega
  have hcases : (K = 0 ∧ M = fr ∧ E = -1074 ∧ x < w53 ∧ (FloatKind.f64.format.order x (double.write ((double.read x).integral .down)) == some .eq) = false)
      ∨ (0 < K ∧ bits .or .u64 (fr : Int) 4503599627370496 = (M : Int) ∧ E = K - 1075 ∧ x < w53 ∧ (FloatKind.f64.format.order x (double.write ((double.read x).integral .down)) == some .eq) = false)
      ∨ (0 < K ∧ bits .or .u64 (fr : Int) 4503599627370496 = (M : Int) ∧ E = K - 1075 ∧ ¬ x < w53) := by
    by_cases h53 : x < w53
    · have q7 : (FloatKind.f64.format.order x (double.write ((double.read x).integral .down)) == some .eq) = false := by
        rw [beq_eq_false_iff_ne]; exact fun h => hfr ⟨h53, h⟩
      rcases hE with ⟨a1, a2, a3⟩ | ⟨a1, a2, a3⟩
      · exact .inl ⟨a1, a2, a3, h53, q7⟩
      · exact .inr (.inl ⟨a1, a2, a3, h53, q7⟩)
    · rcases hE with ⟨a1, a2, a3⟩ | ⟨a1, a2, a3⟩
      · have := hK53 h53; omega
      · exact .inr (.inr ⟨a1, a2, a3, h53⟩)
  clear hfr hE hK53
  rcases hcases with ⟨hK0, hMf, hE0, h53, q7⟩ | ⟨hK0, qo, hE0, h53, q7⟩ | ⟨hK0, qo, hE0, h53⟩
  · have q4 := order_53_lt h53
    have hEa : E ≤ -1074 := by omega
    have HE : Hid (E = -1074) := hE0
    subst hMf
    clear hE0
    go_enter Tryz.func122, Tryz.ntmps122
    go_wp2_with (first | (go_at_call 124; refine (floor_any x _ (by omega)).mono ?_; rintro e w' ⟨rfl, rfl⟩))
    go_loop [12, 13] (fun t bit => ∃ k q : Nat, t = .int .i64 (k : Int) ∧ bit = .int .u64 (q : Int) ∧ k ≤ 52 ∧ q < 9007199254740992 ∧ Hid (q = 2 ^ k ∧ M % 2 ^ k = 0)) (fun t _ => 64 - (intOf t).toNat)
    case atStart => exact ⟨0, 1, rfl, rfl, by omega, by omega, rfl, Nat.mod_one _⟩
    case round =>
      obtain ⟨k, q, rfl, rfl, hk, hq, HQ⟩ := hrel
      have hand := and_bit M k q (by omega) (by omega) HQ.out.1
      by_cases hbit : M / 2 ^ k % 2 = 1
      · have HT : Hid (tz M = k) := tz_eq hM0 (by omega) HQ.out.2 hbit
        have hand1 : (bits .and .u64 (M : Int) (q : Int) == 0) = false := by
          rw [hand, hbit, beq_eq_false_iff_ne]
          have := Nat.two_pow_pos k
          omega
        obtain ⟨M2, hM2⟩ : ∃ M2 : Nat, (M : Int) / 2 ^ k = (M2 : Int) := ⟨M / 2 ^ k, by simp⟩
        have HM3 : Hid (M2 = M / 2 ^ k) := by
          have : ((M / 2 ^ k : Nat) : Int) = (M : Int) / 2 ^ k := by simp
          show M2 = M / 2 ^ k
          omega
        have hM4 : M2 ≤ M := by rw [HM3.out]; exact Nat.div_le_self _ _
        have hnd2 : nd M2 ≤ 16 := nd_le (by omega) (by omega) (Nat.lt_of_le_of_lt hM4 (Nat.lt_trans hM (by decide)))
        have hnd1 : 1 ≤ nd M2 := (nd_spec M2 (by omega)).2.1
        have HD2 : Hid ((dec M2).length = nd M2) := dec_length M2
        obtain ⟨U, HU⟩ : ∃ U : Nat, Hid (U = (E + k).natAbs) := ⟨_, rfl⟩
        have hU1 : U ≤ 1074 := by rw [HU.out]; omega
        have hnd3 : nd U ≤ 4 := nd_le (by omega) (by omega) (Nat.lt_of_le_of_lt hU1 (by decide))
        have HD3 : Hid ((dec U).length = nd U) := dec_length U
        clear hand hbit HQ
        go_wp2_with fail
        refine (lay_int b bs _ _ 0 M2 _ rfl rfl (by omega) hb hlen1 (by omega)).mono ?_
        rintro e w1 ⟨rfl, hb2, hs2⟩
        have hl2 : (put bs 0 (dec M2)).length = 24 := by rw [put_length (by rw [HD2.out]; omega), hlen1]
        obtain ⟨J, HJ⟩ : ∃ J : Nat, Hid (J = 0 + nd M2) := ⟨_, rfl⟩
        have hJ1 : J ≤ 17 := by rw [HJ.out]; omega
        have hJe : 0 + nd M2 = J := HJ.out.symm
        rw [hJe]
        clear hJe
        have ht2 : Hid ((put bs 0 (dec M2)).take J = bs.take 0 ++ dec M2) := by
          have := put_take (bs := bs) (i := 0) (l := dec M2) (by rw [HD2.out]; omega)
          rw [HD2.out, ← HJ.out] at this
          exact this
        generalize put bs 0 (dec M2) = bs2 at *
        have hc2 := hb2.cell (i := J) (by omega)
        have hf2 := hb2.frozen J
        have hb3 : BB 5 b (bs2.set J 112) (w1.setCell ⟨b, J, none⟩ (.int .u8 112)) := hb2.set J (n := 112) (by omega) (by omega)
        have hs3 : Stp b _ (w1.setCell ⟨b, J, none⟩ (.int .u8 112)) := (hs1.trans hs2).setCell (.inl rfl) _
        have hl3 : (bs2.set J 112).length = 24 := by simp [hl2]
        have ht3 : Hid ((bs2.set J 112).take (J + 1) = bs2.take J ++ [112]) := set_take _ (by omega)
        generalize bs2.set J 112 = bs3 at *
        by_cases he : E + (k : Int) < 0
        · have hc3 := hb3.cell (i := J + 1) (by omega)
          have hf3 := hb3.frozen (J + 1)
          have hb4 : BB 5 b (bs3.set (J + 1) 45) ((w1.setCell ⟨b, J, none⟩ (.int .u8 112)).setCell ⟨b, J + 1, none⟩ (.int .u8 45)) := hb3.set (J + 1) (n := 45) (by omega) (by omega)
          have hs4 : Stp b _ ((w1.setCell ⟨b, J, none⟩ (.int .u8 112)).setCell ⟨b, J + 1, none⟩ (.int .u8 45)) := hs3.setCell (.inl rfl) _
          have hl4 : (bs3.set (J + 1) 45).length = 24 := by simp [hl3]
          have ht4 : Hid ((bs3.set (J + 1) 45).take (J + 2) = bs3.take (J + 1) ++ [45]) := set_take _ (by omega)
          generalize bs3.set (J + 1) 45 = bs4 at *
          go_wp2_with fail
          refine (lay_int b bs4 _ _ (J + 2) U _ (by omega) (by have := HU.out; omega) (by omega) hb4 hl4 (by omega)).mono ?_
          rintro e w2 ⟨rfl, hb5, hs5⟩
          have hcv := hb5.convPut (by rw [HD3.out]; omega) (n := J + 2 + nd U) (c := 24) (by rw [HD3.out])
          go_wp2
          go_ret
          refine ⟨ret_str ?_, ⟨_, hb5, by rw [put_length (by rw [HD3.out]; omega), hl4]⟩, hs4.trans hs5⟩
          rw [ht4.out, ht3.out, ht2.out, htk.out, HT.out, ← HM3.out, HU.out]
          unfold itoaL
          rw [if_pos he]
          simp
        · try (exfalso; omega)
          all_goals
            go_wp2_with fail
            refine (lay_int b bs3 _ _ (J + 1) U _ (by omega) (by have := HU.out; omega) (by omega) hb3 hl3 (by omega)).mono ?_
            rintro e w2 ⟨rfl, hb5, hs5⟩
            have hcv := hb5.convPut (by rw [HD3.out]; omega) (n := J + 1 + nd U) (c := 24) (by rw [HD3.out])
            go_wp2
            go_ret
            refine ⟨ret_str ?_, ⟨_, hb5, by rw [put_length (by rw [HD3.out]; omega), hl3]⟩, hs3.trans hs5⟩
            rw [ht3.out, ht2.out, htk.out, HT.out, ← HM3.out, HU.out]
            unfold itoaL
            rw [if_neg (by omega)]
            simp
      · have hand0 : bits .and .u64 (M : Int) (q : Int) = 0 := by
          rw [hand, show M / 2 ^ k % 2 = 0 from by omega]; simp
        have hstep : M % 2 ^ (k + 1) = 0 := by
          rw [Nat.pow_succ, Nat.mod_mul, HQ.out.2, show M / 2 ^ k % 2 = 0 from by omega]; simp
        have hk52 : k < 52 := by
          by_cases c : k < 52
          · exact c
          · have : k = 52 := by omega
            subst this
            omega
        have HS : Hid (M % 2 ^ (k + 1) = 0) := hstep
        clear hand hstep hbit
        have hq2 : q ≤ 2251799813685248 := by
          rw [HQ.out.1]
          exact Nat.pow_le_pow_right (n := 2) (by omega) (show k ≤ 51 by omega)
        go_wp2
        go_round
        case rel => exact ⟨k + 1, q * 2, by go_num, by go_num, by omega, by omega, by rw [Nat.pow_succ, ← HQ.out.1], HS.out⟩
        case measure => simp [intOf]; omega
  · have q4 := order_53_lt h53
    have hEa : E ≤ (K : Int) - 1075 := by omega
    have hEb : (K : Int) - 1075 ≤ E := by omega
    clear hE0
    go_enter Tryz.func122, Tryz.ntmps122
    go_wp2_with (first | (go_at_call 124; refine (floor_any x _ (by omega)).mono ?_; rintro e w' ⟨rfl, rfl⟩))
    go_loop [12, 13] (fun t bit => ∃ k q : Nat, t = .int .i64 (k : Int) ∧ bit = .int .u64 (q : Int) ∧ k ≤ 52 ∧ q < 9007199254740992 ∧ Hid (q = 2 ^ k ∧ M % 2 ^ k = 0)) (fun t _ => 64 - (intOf t).toNat)
    case atStart => exact ⟨0, 1, rfl, rfl, by omega, by omega, rfl, Nat.mod_one _⟩
    case round =>
      obtain ⟨k, q, rfl, rfl, hk, hq, HQ⟩ := hrel
      have hand := and_bit M k q (by omega) (by omega) HQ.out.1
      by_cases hbit : M / 2 ^ k % 2 = 1
      · have HT : Hid (tz M = k) := tz_eq hM0 (by omega) HQ.out.2 hbit
        have hand1 : (bits .and .u64 (M : Int) (q : Int) == 0) = false := by
          rw [hand, hbit, beq_eq_false_iff_ne]
          have := Nat.two_pow_pos k
          omega
        obtain ⟨M2, hM2⟩ : ∃ M2 : Nat, (M : Int) / 2 ^ k = (M2 : Int) := ⟨M / 2 ^ k, by simp⟩
        have HM3 : Hid (M2 = M / 2 ^ k) := by
          have : ((M / 2 ^ k : Nat) : Int) = (M : Int) / 2 ^ k := by simp
          show M2 = M / 2 ^ k
          omega
        have hM4 : M2 ≤ M := by rw [HM3.out]; exact Nat.div_le_self _ _
        have hnd2 : nd M2 ≤ 16 := nd_le (by omega) (by omega) (Nat.lt_of_le_of_lt hM4 (Nat.lt_trans hM (by decide)))
        have hnd1 : 1 ≤ nd M2 := (nd_spec M2 (by omega)).2.1
        have HD2 : Hid ((dec M2).length = nd M2) := dec_length M2
        obtain ⟨U, HU⟩ : ∃ U : Nat, Hid (U = (E + k).natAbs) := ⟨_, rfl⟩
        have hU1 : U ≤ 1074 := by rw [HU.out]; omega
        have hnd3 : nd U ≤ 4 := nd_le (by omega) (by omega) (Nat.lt_of_le_of_lt hU1 (by decide))
        have HD3 : Hid ((dec U).length = nd U) := dec_length U
        clear hand hbit HQ
        go_wp2_with fail
        refine (lay_int b bs _ _ 0 M2 _ rfl rfl (by omega) hb hlen1 (by omega)).mono ?_
        rintro e w1 ⟨rfl, hb2, hs2⟩
        have hl2 : (put bs 0 (dec M2)).length = 24 := by rw [put_length (by rw [HD2.out]; omega), hlen1]
        obtain ⟨J, HJ⟩ : ∃ J : Nat, Hid (J = 0 + nd M2) := ⟨_, rfl⟩
        have hJ1 : J ≤ 17 := by rw [HJ.out]; omega
        have hJe : 0 + nd M2 = J := HJ.out.symm
        rw [hJe]
        clear hJe
        have ht2 : Hid ((put bs 0 (dec M2)).take J = bs.take 0 ++ dec M2) := by
          have := put_take (bs := bs) (i := 0) (l := dec M2) (by rw [HD2.out]; omega)
          rw [HD2.out, ← HJ.out] at this
          exact this
        generalize put bs 0 (dec M2) = bs2 at *
        have hc2 := hb2.cell (i := J) (by omega)
        have hf2 := hb2.frozen J
        have hb3 : BB 5 b (bs2.set J 112) (w1.setCell ⟨b, J, none⟩ (.int .u8 112)) := hb2.set J (n := 112) (by omega) (by omega)
        have hs3 : Stp b _ (w1.setCell ⟨b, J, none⟩ (.int .u8 112)) := (hs1.trans hs2).setCell (.inl rfl) _
        have hl3 : (bs2.set J 112).length = 24 := by simp [hl2]
        have ht3 : Hid ((bs2.set J 112).take (J + 1) = bs2.take J ++ [112]) := set_take _ (by omega)
        generalize bs2.set J 112 = bs3 at *
        by_cases he : E + (k : Int) < 0
        · have hc3 := hb3.cell (i := J + 1) (by omega)
          have hf3 := hb3.frozen (J + 1)
          have hb4 : BB 5 b (bs3.set (J + 1) 45) ((w1.setCell ⟨b, J, none⟩ (.int .u8 112)).setCell ⟨b, J + 1, none⟩ (.int .u8 45)) := hb3.set (J + 1) (n := 45) (by omega) (by omega)
          have hs4 : Stp b _ ((w1.setCell ⟨b, J, none⟩ (.int .u8 112)).setCell ⟨b, J + 1, none⟩ (.int .u8 45)) := hs3.setCell (.inl rfl) _
          have hl4 : (bs3.set (J + 1) 45).length = 24 := by simp [hl3]
          have ht4 : Hid ((bs3.set (J + 1) 45).take (J + 2) = bs3.take (J + 1) ++ [45]) := set_take _ (by omega)
          generalize bs3.set (J + 1) 45 = bs4 at *
          go_wp2_with fail
          refine (lay_int b bs4 _ _ (J + 2) U _ (by omega) (by have := HU.out; omega) (by omega) hb4 hl4 (by omega)).mono ?_
          rintro e w2 ⟨rfl, hb5, hs5⟩
          have hcv := hb5.convPut (by rw [HD3.out]; omega) (n := J + 2 + nd U) (c := 24) (by rw [HD3.out])
          go_wp2
          go_ret
          refine ⟨ret_str ?_, ⟨_, hb5, by rw [put_length (by rw [HD3.out]; omega), hl4]⟩, hs4.trans hs5⟩
          rw [ht4.out, ht3.out, ht2.out, htk.out, HT.out, ← HM3.out, HU.out]
          unfold itoaL
          rw [if_pos he]
          simp
        · try (exfalso; omega)
          all_goals
            go_wp2_with fail
            refine (lay_int b bs3 _ _ (J + 1) U _ (by omega) (by have := HU.out; omega) (by omega) hb3 hl3 (by omega)).mono ?_
            rintro e w2 ⟨rfl, hb5, hs5⟩
            have hcv := hb5.convPut (by rw [HD3.out]; omega) (n := J + 1 + nd U) (c := 24) (by rw [HD3.out])
            go_wp2
            go_ret
            refine ⟨ret_str ?_, ⟨_, hb5, by rw [put_length (by rw [HD3.out]; omega), hl3]⟩, hs3.trans hs5⟩
            rw [ht3.out, ht2.out, htk.out, HT.out, ← HM3.out, HU.out]
            unfold itoaL
            rw [if_neg (by omega)]
            simp
      · have hand0 : bits .and .u64 (M : Int) (q : Int) = 0 := by
          rw [hand, show M / 2 ^ k % 2 = 0 from by omega]; simp
        have hstep : M % 2 ^ (k + 1) = 0 := by
          rw [Nat.pow_succ, Nat.mod_mul, HQ.out.2, show M / 2 ^ k % 2 = 0 from by omega]; simp
        have hk52 : k < 52 := by
          by_cases c : k < 52
          · exact c
          · have : k = 52 := by omega
            subst this
            omega
        have HS : Hid (M % 2 ^ (k + 1) = 0) := hstep
        clear hand hstep hbit
        have hq2 : q ≤ 2251799813685248 := by
          rw [HQ.out.1]
          exact Nat.pow_le_pow_right (n := 2) (by omega) (show k ≤ 51 by omega)
        go_wp2
        go_round
        case rel => exact ⟨k + 1, q * 2, by go_num, by go_num, by omega, by omega, by rw [Nat.pow_succ, ← HQ.out.1], HS.out⟩
        case measure => simp [intOf]; omega
  · have q4 := order_53_not h53 hx
    have hEa : E ≤ (K : Int) - 1075 := by omega
    have hEb : (K : Int) - 1075 ≤ E := by omega
    clear hE0
    go_enter Tryz.func122, Tryz.ntmps122
    go_wp2_with (first | (go_at_call 124; refine (floor_any x _ (by omega)).mono ?_; rintro e w' ⟨rfl, rfl⟩))
    go_loop [12, 13] (fun t bit => ∃ k q : Nat, t = .int .i64 (k : Int) ∧ bit = .int .u64 (q : Int) ∧ k ≤ 52 ∧ q < 9007199254740992 ∧ Hid (q = 2 ^ k ∧ M % 2 ^ k = 0)) (fun t _ => 64 - (intOf t).toNat)
    case atStart => exact ⟨0, 1, rfl, rfl, by omega, by omega, rfl, Nat.mod_one _⟩
    case round =>
      obtain ⟨k, q, rfl, rfl, hk, hq, HQ⟩ := hrel
      have hand := and_bit M k q (by omega) (by omega) HQ.out.1
      by_cases hbit : M / 2 ^ k % 2 = 1
      · have HT : Hid (tz M = k) := tz_eq hM0 (by omega) HQ.out.2 hbit
        have hand1 : (bits .and .u64 (M : Int) (q : Int) == 0) = false := by
          rw [hand, hbit, beq_eq_false_iff_ne]
          have := Nat.two_pow_pos k
          omega
        obtain ⟨M2, hM2⟩ : ∃ M2 : Nat, (M : Int) / 2 ^ k = (M2 : Int) := ⟨M / 2 ^ k, by simp⟩
        have HM3 : Hid (M2 = M / 2 ^ k) := by
          have : ((M / 2 ^ k : Nat) : Int) = (M : Int) / 2 ^ k := by simp
          show M2 = M / 2 ^ k
          omega
        have hM4 : M2 ≤ M := by rw [HM3.out]; exact Nat.div_le_self _ _
        have hnd2 : nd M2 ≤ 16 := nd_le (by omega) (by omega) (Nat.lt_of_le_of_lt hM4 (Nat.lt_trans hM (by decide)))
        have hnd1 : 1 ≤ nd M2 := (nd_spec M2 (by omega)).2.1
        have HD2 : Hid ((dec M2).length = nd M2) := dec_length M2
        obtain ⟨U, HU⟩ : ∃ U : Nat, Hid (U = (E + k).natAbs) := ⟨_, rfl⟩
        have hU1 : U ≤ 1074 := by rw [HU.out]; omega
        have hnd3 : nd U ≤ 4 := nd_le (by omega) (by omega) (Nat.lt_of_le_of_lt hU1 (by decide))
        have HD3 : Hid ((dec U).length = nd U) := dec_length U
        clear hand hbit HQ
        go_wp2_with fail
        refine (lay_int b bs _ _ 0 M2 _ rfl rfl (by omega) hb hlen1 (by omega)).mono ?_
        rintro e w1 ⟨rfl, hb2, hs2⟩
        have hl2 : (put bs 0 (dec M2)).length = 24 := by rw [put_length (by rw [HD2.out]; omega), hlen1]
        obtain ⟨J, HJ⟩ : ∃ J : Nat, Hid (J = 0 + nd M2) := ⟨_, rfl⟩
        have hJ1 : J ≤ 17 := by rw [HJ.out]; omega
        have hJe : 0 + nd M2 = J := HJ.out.symm
        rw [hJe]
        clear hJe
        have ht2 : Hid ((put bs 0 (dec M2)).take J = bs.take 0 ++ dec M2) := by
          have := put_take (bs := bs) (i := 0) (l := dec M2) (by rw [HD2.out]; omega)
          rw [HD2.out, ← HJ.out] at this
          exact this
        generalize put bs 0 (dec M2) = bs2 at *
        have hc2 := hb2.cell (i := J) (by omega)
        have hf2 := hb2.frozen J
        have hb3 : BB 5 b (bs2.set J 112) (w1.setCell ⟨b, J, none⟩ (.int .u8 112)) := hb2.set J (n := 112) (by omega) (by omega)
        have hs3 : Stp b _ (w1.setCell ⟨b, J, none⟩ (.int .u8 112)) := (hs1.trans hs2).setCell (.inl rfl) _
        have hl3 : (bs2.set J 112).length = 24 := by simp [hl2]
        have ht3 : Hid ((bs2.set J 112).take (J + 1) = bs2.take J ++ [112]) := set_take _ (by omega)
        generalize bs2.set J 112 = bs3 at *
        by_cases he : E + (k : Int) < 0
        · have hc3 := hb3.cell (i := J + 1) (by omega)
          have hf3 := hb3.frozen (J + 1)
          have hb4 : BB 5 b (bs3.set (J + 1) 45) ((w1.setCell ⟨b, J, none⟩ (.int .u8 112)).setCell ⟨b, J + 1, none⟩ (.int .u8 45)) := hb3.set (J + 1) (n := 45) (by omega) (by omega)
          have hs4 : Stp b _ ((w1.setCell ⟨b, J, none⟩ (.int .u8 112)).setCell ⟨b, J + 1, none⟩ (.int .u8 45)) := hs3.setCell (.inl rfl) _
          have hl4 : (bs3.set (J + 1) 45).length = 24 := by simp [hl3]
          have ht4 : Hid ((bs3.set (J + 1) 45).take (J + 2) = bs3.take (J + 1) ++ [45]) := set_take _ (by omega)
          generalize bs3.set (J + 1) 45 = bs4 at *
          go_wp2_with fail
          refine (lay_int b bs4 _ _ (J + 2) U _ (by omega) (by have := HU.out; omega) (by omega) hb4 hl4 (by omega)).mono ?_
          rintro e w2 ⟨rfl, hb5, hs5⟩
          have hcv := hb5.convPut (by rw [HD3.out]; omega) (n := J + 2 + nd U) (c := 24) (by rw [HD3.out])
          go_wp2
          go_ret
          refine ⟨ret_str ?_, ⟨_, hb5, by rw [put_length (by rw [HD3.out]; omega), hl4]⟩, hs4.trans hs5⟩
          rw [ht4.out, ht3.out, ht2.out, htk.out, HT.out, ← HM3.out, HU.out]
          unfold itoaL
          rw [if_pos he]
          simp
        · try (exfalso; omega)
          all_goals
            go_wp2_with fail
            refine (lay_int b bs3 _ _ (J + 1) U _ (by omega) (by have := HU.out; omega) (by omega) hb3 hl3 (by omega)).mono ?_
            rintro e w2 ⟨rfl, hb5, hs5⟩
            have hcv := hb5.convPut (by rw [HD3.out]; omega) (n := J + 1 + nd U) (c := 24) (by rw [HD3.out])
            go_wp2
            go_ret
            refine ⟨ret_str ?_, ⟨_, hb5, by rw [put_length (by rw [HD3.out]; omega), hl3]⟩, hs3.trans hs5⟩
            rw [ht3.out, ht2.out, htk.out, HT.out, ← HM3.out, HU.out]
            unfold itoaL
            rw [if_neg (by omega)]
            simp
      · have hand0 : bits .and .u64 (M : Int) (q : Int) = 0 := by
          rw [hand, show M / 2 ^ k % 2 = 0 from by omega]; simp
        have hstep : M % 2 ^ (k + 1) = 0 := by
          rw [Nat.pow_succ, Nat.mod_mul, HQ.out.2, show M / 2 ^ k % 2 = 0 from by omega]; simp
        have hk52 : k < 52 := by
          by_cases c : k < 52
          · exact c
          · have : k = 52 := by omega
            subst this
            omega
        have HS : Hid (M % 2 ^ (k + 1) = 0) := hstep
        clear hand hstep hbit
        have hq2 : q ≤ 2251799813685248 := by
          rw [HQ.out.1]
          exact Nat.pow_le_pow_right (n := 2) (by omega) (show k ≤ 51 by omega)
        go_wp2
        go_round
        case rel => exact ⟨k + 1, q * 2, by go_num, by go_num, by omega, by omega, by rw [Nat.pow_succ, ← HQ.out.1], HS.out⟩
        case measure => simp [intOf]; omega

set_option maxHeartbeats 3200000 in
theorem format_frac_neg (n b : Nat) (bs : List UInt8) (X r fr K M : Nat) (E : Int) (w : World) (hn : NumAt n b w) (hb0 : BB 5 b bs w) (hlen : bs.length = 24)
   (hX : X = 2 ^ 63 + r) (hx : r < 2047 * 2 ^ 52) (hfr : ¬ (r < w53 ∧ FloatKind.f64.format.order r (double.write ((double.read r).integral .down)) = some .eq))
   (qm : bits .and .u64 (X : Int) (bits .xor .u64 IntKind.u64.max ((X : Int) / 4503599627370496 * 4503599627370496)) = (fr : Int))
   (qk : bits .and .u64 ((X : Int) / 4503599627370496) 2047 = (K : Int)) (hK : K < 2047) (hK53 : ¬ r < w53 → 0 < K) (hM0 : 0 < M) (hM : M < 2 ^ 53)
   (hE : (K = 0 ∧ M = fr ∧ E = -1074) ∨ (0 < K ∧ bits .or .u64 (fr : Int) 4503599627370496 = (M : Int) ∧ E = K - 1075)) :
    Calls Tryz.prog 122 #[.pointer (some ⟨n, 0, none⟩), .int .u64 X] w fun e w' => e = .returned (.string ⟨([45] ++ (dec (M / 2 ^ tz M) ++ [112] ++ itoaL (E + tz M))).toArray⟩) ∧ (∃ bs', BB 5 b bs' w' ∧ bs'.length = 24) ∧ Stp b w w' := by
  have q1 := order_self X (by omega) (by omega)
  have q2 := order_neg_not_above hx
  have q3 := order_neg_not_below hx
  rw [← hX] at q2 q3
  have q6 : flip X = r := by rw [hX]; unfold flip; rw [xor_sign _ (by omega), if_neg (by omega)]; omega
  have hX3 : 9223372036854775808 ≤ X := by omega
  have hX4 : X < 18446744073709551616 := by omega
  have hc0 := hb0.cell (i := 0) (by omega)
  have hf0 := hb0.frozen 0
  have hb : BB 5 b (bs.set 0 45) (w.setCell ⟨b, 0, none⟩ (.int .u8 45)) := hb0.set 0 (n := 45) (by omega) (by omega)
  have hs1 : Stp b w (w.setCell ⟨b, 0, none⟩ (.int .u8 45)) := (Stp.refl b w).setCell (.inl rfl) _
  have hlen1 : (bs.set 0 45).length = 24 := by simp [hlen]
  have htk : Hid ((bs.set 0 45).take 1 = [45]) := by
    match bs, hlen with
    | _ :: _, _ => rfl
  clear hX hb0
  have hc := hn.cell
  have hsg : IntKind.u64.signed = false := rfl
  have hE1 : -1074 ≤ E := by omega
  have hE2 : E ≤ 971 := by omega
  have hcases : (K = 0 ∧ M = fr ∧ E = -1074 ∧ r < w53 ∧ (FloatKind.f64.format.order r (double.write ((double.read r).integral .down)) == some .eq) = false)
      ∨ (0 < K ∧ bits .or .u64 (fr : Int) 4503599627370496 = (M : Int) ∧ E = K - 1075 ∧ r < w53 ∧ (FloatKind.f64.format.order r (double.write ((double.read r).integral .down)) == some .eq) = false)
      ∨ (0 < K ∧ bits .or .u64 (fr : Int) 4503599627370496 = (M : Int) ∧ E = K - 1075 ∧ ¬ r < w53) := by
    by_cases h53 : r < w53
    · have q7 : (FloatKind.f64.format.order r (double.write ((double.read r).integral .down)) == some .eq) = false := by
        rw [beq_eq_false_iff_ne]; exact fun h => hfr ⟨h53, h⟩
      rcases hE with ⟨a1, a2, a3⟩ | ⟨a1, a2, a3⟩
      · exact .inl ⟨a1, a2, a3, h53, q7⟩
      · exact .inr (.inl ⟨a1, a2, a3, h53, q7⟩)
    · rcases hE with ⟨a1, a2, a3⟩ | ⟨a1, a2, a3⟩
      · have := hK53 h53; omega
      · exact .inr (.inr ⟨a1, a2, a3, h53⟩)
  clear hfr hE hK53
  rcases hcases with ⟨hK0, hMf, hE0, h53, q7⟩ | ⟨hK0, qo, hE0, h53, q7⟩ | ⟨hK0, qo, hE0, h53⟩
  · have q4 := order_53_lt h53
    have hEa : E ≤ -1074 := by omega
    have HE : Hid (E = -1074) := hE0
    subst hMf
    clear hE0
    go_enter Tryz.func122, Tryz.ntmps122
    go_wp2_with (first | (go_at_call 124; refine (floor_any r _ (by omega)).mono ?_; rintro e w' ⟨rfl, rfl⟩))
    go_loop [12, 13] (fun t bit => ∃ k q : Nat, t = .int .i64 (k : Int) ∧ bit = .int .u64 (q : Int) ∧ k ≤ 52 ∧ q < 9007199254740992 ∧ Hid (q = 2 ^ k ∧ M % 2 ^ k = 0)) (fun t _ => 64 - (intOf t).toNat)
    case atStart => exact ⟨0, 1, rfl, rfl, by omega, by omega, rfl, Nat.mod_one _⟩
    case round =>
      obtain ⟨k, q, rfl, rfl, hk, hq, HQ⟩ := hrel
      have hand := and_bit M k q (by omega) (by omega) HQ.out.1
      by_cases hbit : M / 2 ^ k % 2 = 1
      · have HT : Hid (tz M = k) := tz_eq hM0 (by omega) HQ.out.2 hbit
        have hand1 : (bits .and .u64 (M : Int) (q : Int) == 0) = false := by
          rw [hand, hbit, beq_eq_false_iff_ne]
          have := Nat.two_pow_pos k
          omega
        obtain ⟨M2, hM2⟩ : ∃ M2 : Nat, (M : Int) / 2 ^ k = (M2 : Int) := ⟨M / 2 ^ k, by simp⟩
        have HM3 : Hid (M2 = M / 2 ^ k) := by
          have : ((M / 2 ^ k : Nat) : Int) = (M : Int) / 2 ^ k := by simp
          show M2 = M / 2 ^ k
          omega
        have hM4 : M2 ≤ M := by rw [HM3.out]; exact Nat.div_le_self _ _
        have hnd2 : nd M2 ≤ 16 := nd_le (by omega) (by omega) (Nat.lt_of_le_of_lt hM4 (Nat.lt_trans hM (by decide)))
        have hnd1 : 1 ≤ nd M2 := (nd_spec M2 (by omega)).2.1
        have HD2 : Hid ((dec M2).length = nd M2) := dec_length M2
        obtain ⟨U, HU⟩ : ∃ U : Nat, Hid (U = (E + k).natAbs) := ⟨_, rfl⟩
        have hU1 : U ≤ 1074 := by rw [HU.out]; omega
        have hnd3 : nd U ≤ 4 := nd_le (by omega) (by omega) (Nat.lt_of_le_of_lt hU1 (by decide))
        have HD3 : Hid ((dec U).length = nd U) := dec_length U
        clear hand hbit HQ
        go_wp2_with fail
        refine (lay_int b (bs.set 0 45) _ _ 1 M2 _ rfl rfl (by omega) hb hlen1 (by omega)).mono ?_
        rintro e w1 ⟨rfl, hb2, hs2⟩
        have hl2 : (put (bs.set 0 45) 1 (dec M2)).length = 24 := by rw [put_length (by rw [HD2.out]; omega), hlen1]
        obtain ⟨J, HJ⟩ : ∃ J : Nat, Hid (J = 1 + nd M2) := ⟨_, rfl⟩
        have hJ1 : J ≤ 17 := by rw [HJ.out]; omega
        have hJe : 1 + nd M2 = J := HJ.out.symm
        rw [hJe]
        clear hJe
        have ht2 : Hid ((put (bs.set 0 45) 1 (dec M2)).take J = (bs.set 0 45).take 1 ++ dec M2) := by
          have := put_take (bs := (bs.set 0 45)) (i := 1) (l := dec M2) (by rw [HD2.out]; omega)
          rw [HD2.out, ← HJ.out] at this
          exact this
        generalize put (bs.set 0 45) 1 (dec M2) = bs2 at *
        have hc2 := hb2.cell (i := J) (by omega)
        have hf2 := hb2.frozen J
        have hb3 : BB 5 b (bs2.set J 112) (w1.setCell ⟨b, J, none⟩ (.int .u8 112)) := hb2.set J (n := 112) (by omega) (by omega)
        have hs3 : Stp b _ (w1.setCell ⟨b, J, none⟩ (.int .u8 112)) := (hs1.trans hs2).setCell (.inl rfl) _
        have hl3 : (bs2.set J 112).length = 24 := by simp [hl2]
        have ht3 : Hid ((bs2.set J 112).take (J + 1) = bs2.take J ++ [112]) := set_take _ (by omega)
        generalize bs2.set J 112 = bs3 at *
        by_cases he : E + (k : Int) < 0
        · have hc3 := hb3.cell (i := J + 1) (by omega)
          have hf3 := hb3.frozen (J + 1)
          have hb4 : BB 5 b (bs3.set (J + 1) 45) ((w1.setCell ⟨b, J, none⟩ (.int .u8 112)).setCell ⟨b, J + 1, none⟩ (.int .u8 45)) := hb3.set (J + 1) (n := 45) (by omega) (by omega)
          have hs4 : Stp b _ ((w1.setCell ⟨b, J, none⟩ (.int .u8 112)).setCell ⟨b, J + 1, none⟩ (.int .u8 45)) := hs3.setCell (.inl rfl) _
          have hl4 : (bs3.set (J + 1) 45).length = 24 := by simp [hl3]
          have ht4 : Hid ((bs3.set (J + 1) 45).take (J + 2) = bs3.take (J + 1) ++ [45]) := set_take _ (by omega)
          generalize bs3.set (J + 1) 45 = bs4 at *
          go_wp2_with fail
          refine (lay_int b bs4 _ _ (J + 2) U _ (by omega) (by have := HU.out; omega) (by omega) hb4 hl4 (by omega)).mono ?_
          rintro e w2 ⟨rfl, hb5, hs5⟩
          have hcv := hb5.convPut (by rw [HD3.out]; omega) (n := J + 2 + nd U) (c := 24) (by rw [HD3.out])
          go_wp2
          go_ret
          refine ⟨ret_str ?_, ⟨_, hb5, by rw [put_length (by rw [HD3.out]; omega), hl4]⟩, hs4.trans hs5⟩
          rw [ht4.out, ht3.out, ht2.out, htk.out, HT.out, ← HM3.out, HU.out]
          unfold itoaL
          rw [if_pos he]
          simp
        · try (exfalso; omega)
          all_goals
            go_wp2_with fail
            refine (lay_int b bs3 _ _ (J + 1) U _ (by omega) (by have := HU.out; omega) (by omega) hb3 hl3 (by omega)).mono ?_
            rintro e w2 ⟨rfl, hb5, hs5⟩
            have hcv := hb5.convPut (by rw [HD3.out]; omega) (n := J + 1 + nd U) (c := 24) (by rw [HD3.out])
            go_wp2
            go_ret
            refine ⟨ret_str ?_, ⟨_, hb5, by rw [put_length (by rw [HD3.out]; omega), hl3]⟩, hs3.trans hs5⟩
            rw [ht3.out, ht2.out, htk.out, HT.out, ← HM3.out, HU.out]
            unfold itoaL
            rw [if_neg (by omega)]
            simp
      · have hand0 : bits .and .u64 (M : Int) (q : Int) = 0 := by
          rw [hand, show M / 2 ^ k % 2 = 0 from by omega]; simp
        have hstep : M % 2 ^ (k + 1) = 0 := by
          rw [Nat.pow_succ, Nat.mod_mul, HQ.out.2, show M / 2 ^ k % 2 = 0 from by omega]; simp
        have hk52 : k < 52 := by
          by_cases c : k < 52
          · exact c
          · have : k = 52 := by omega
            subst this
            omega
        have HS : Hid (M % 2 ^ (k + 1) = 0) := hstep
        clear hand hstep hbit
        have hq2 : q ≤ 2251799813685248 := by
          rw [HQ.out.1]
          exact Nat.pow_le_pow_right (n := 2) (by omega) (show k ≤ 51 by omega)
        go_wp2
        go_round
        case rel => exact ⟨k + 1, q * 2, by go_num, by go_num, by omega, by omega, by rw [Nat.pow_succ, ← HQ.out.1], HS.out⟩
        case measure => simp [intOf]; omega
  · have q4 := order_53_lt h53
    have hEa : E ≤ (K : Int) - 1075 := by omega
    have hEb : (K : Int) - 1075 ≤ E := by omega
    clear hE0
    go_enter Tryz.func122, Tryz.ntmps122
    go_wp2_with (first | (go_at_call 124; refine (floor_any r _ (by omega)).mono ?_; rintro e w' ⟨rfl, rfl⟩))
    go_loop [12, 13] (fun t bit => ∃ k q : Nat, t = .int .i64 (k : Int) ∧ bit = .int .u64 (q : Int) ∧ k ≤ 52 ∧ q < 9007199254740992 ∧ Hid (q = 2 ^ k ∧ M % 2 ^ k = 0)) (fun t _ => 64 - (intOf t).toNat)
    case atStart => exact ⟨0, 1, rfl, rfl, by omega, by omega, rfl, Nat.mod_one _⟩
    case round =>
      obtain ⟨k, q, rfl, rfl, hk, hq, HQ⟩ := hrel
      have hand := and_bit M k q (by omega) (by omega) HQ.out.1
      by_cases hbit : M / 2 ^ k % 2 = 1
      · have HT : Hid (tz M = k) := tz_eq hM0 (by omega) HQ.out.2 hbit
        have hand1 : (bits .and .u64 (M : Int) (q : Int) == 0) = false := by
          rw [hand, hbit, beq_eq_false_iff_ne]
          have := Nat.two_pow_pos k
          omega
        obtain ⟨M2, hM2⟩ : ∃ M2 : Nat, (M : Int) / 2 ^ k = (M2 : Int) := ⟨M / 2 ^ k, by simp⟩
        have HM3 : Hid (M2 = M / 2 ^ k) := by
          have : ((M / 2 ^ k : Nat) : Int) = (M : Int) / 2 ^ k := by simp
          show M2 = M / 2 ^ k
          omega
        have hM4 : M2 ≤ M := by rw [HM3.out]; exact Nat.div_le_self _ _
        have hnd2 : nd M2 ≤ 16 := nd_le (by omega) (by omega) (Nat.lt_of_le_of_lt hM4 (Nat.lt_trans hM (by decide)))
        have hnd1 : 1 ≤ nd M2 := (nd_spec M2 (by omega)).2.1
        have HD2 : Hid ((dec M2).length = nd M2) := dec_length M2
        obtain ⟨U, HU⟩ : ∃ U : Nat, Hid (U = (E + k).natAbs) := ⟨_, rfl⟩
        have hU1 : U ≤ 1074 := by rw [HU.out]; omega
        have hnd3 : nd U ≤ 4 := nd_le (by omega) (by omega) (Nat.lt_of_le_of_lt hU1 (by decide))
        have HD3 : Hid ((dec U).length = nd U) := dec_length U
        clear hand hbit HQ
        go_wp2_with fail
        refine (lay_int b (bs.set 0 45) _ _ 1 M2 _ rfl rfl (by omega) hb hlen1 (by omega)).mono ?_
        rintro e w1 ⟨rfl, hb2, hs2⟩
        have hl2 : (put (bs.set 0 45) 1 (dec M2)).length = 24 := by rw [put_length (by rw [HD2.out]; omega), hlen1]
        obtain ⟨J, HJ⟩ : ∃ J : Nat, Hid (J = 1 + nd M2) := ⟨_, rfl⟩
        have hJ1 : J ≤ 17 := by rw [HJ.out]; omega
        have hJe : 1 + nd M2 = J := HJ.out.symm
        rw [hJe]
        clear hJe
        have ht2 : Hid ((put (bs.set 0 45) 1 (dec M2)).take J = (bs.set 0 45).take 1 ++ dec M2) := by
          have := put_take (bs := (bs.set 0 45)) (i := 1) (l := dec M2) (by rw [HD2.out]; omega)
          rw [HD2.out, ← HJ.out] at this
          exact this
        generalize put (bs.set 0 45) 1 (dec M2) = bs2 at *
        have hc2 := hb2.cell (i := J) (by omega)
        have hf2 := hb2.frozen J
        have hb3 : BB 5 b (bs2.set J 112) (w1.setCell ⟨b, J, none⟩ (.int .u8 112)) := hb2.set J (n := 112) (by omega) (by omega)
        have hs3 : Stp b _ (w1.setCell ⟨b, J, none⟩ (.int .u8 112)) := (hs1.trans hs2).setCell (.inl rfl) _
        have hl3 : (bs2.set J 112).length = 24 := by simp [hl2]
        have ht3 : Hid ((bs2.set J 112).take (J + 1) = bs2.take J ++ [112]) := set_take _ (by omega)
        generalize bs2.set J 112 = bs3 at *
        by_cases he : E + (k : Int) < 0
        · have hc3 := hb3.cell (i := J + 1) (by omega)
          have hf3 := hb3.frozen (J + 1)
          have hb4 : BB 5 b (bs3.set (J + 1) 45) ((w1.setCell ⟨b, J, none⟩ (.int .u8 112)).setCell ⟨b, J + 1, none⟩ (.int .u8 45)) := hb3.set (J + 1) (n := 45) (by omega) (by omega)
          have hs4 : Stp b _ ((w1.setCell ⟨b, J, none⟩ (.int .u8 112)).setCell ⟨b, J + 1, none⟩ (.int .u8 45)) := hs3.setCell (.inl rfl) _
          have hl4 : (bs3.set (J + 1) 45).length = 24 := by simp [hl3]
          have ht4 : Hid ((bs3.set (J + 1) 45).take (J + 2) = bs3.take (J + 1) ++ [45]) := set_take _ (by omega)
          generalize bs3.set (J + 1) 45 = bs4 at *
          go_wp2_with fail
          refine (lay_int b bs4 _ _ (J + 2) U _ (by omega) (by have := HU.out; omega) (by omega) hb4 hl4 (by omega)).mono ?_
          rintro e w2 ⟨rfl, hb5, hs5⟩
          have hcv := hb5.convPut (by rw [HD3.out]; omega) (n := J + 2 + nd U) (c := 24) (by rw [HD3.out])
          go_wp2
          go_ret
          refine ⟨ret_str ?_, ⟨_, hb5, by rw [put_length (by rw [HD3.out]; omega), hl4]⟩, hs4.trans hs5⟩
          rw [ht4.out, ht3.out, ht2.out, htk.out, HT.out, ← HM3.out, HU.out]
          unfold itoaL
          rw [if_pos he]
          simp
        · try (exfalso; omega)
          all_goals
            go_wp2_with fail
            refine (lay_int b bs3 _ _ (J + 1) U _ (by omega) (by have := HU.out; omega) (by omega) hb3 hl3 (by omega)).mono ?_
            rintro e w2 ⟨rfl, hb5, hs5⟩
            have hcv := hb5.convPut (by rw [HD3.out]; omega) (n := J + 1 + nd U) (c := 24) (by rw [HD3.out])
            go_wp2
            go_ret
            refine ⟨ret_str ?_, ⟨_, hb5, by rw [put_length (by rw [HD3.out]; omega), hl3]⟩, hs3.trans hs5⟩
            rw [ht3.out, ht2.out, htk.out, HT.out, ← HM3.out, HU.out]
            unfold itoaL
            rw [if_neg (by omega)]
            simp
      · have hand0 : bits .and .u64 (M : Int) (q : Int) = 0 := by
          rw [hand, show M / 2 ^ k % 2 = 0 from by omega]; simp
        have hstep : M % 2 ^ (k + 1) = 0 := by
          rw [Nat.pow_succ, Nat.mod_mul, HQ.out.2, show M / 2 ^ k % 2 = 0 from by omega]; simp
        have hk52 : k < 52 := by
          by_cases c : k < 52
          · exact c
          · have : k = 52 := by omega
            subst this
            omega
        have HS : Hid (M % 2 ^ (k + 1) = 0) := hstep
        clear hand hstep hbit
        have hq2 : q ≤ 2251799813685248 := by
          rw [HQ.out.1]
          exact Nat.pow_le_pow_right (n := 2) (by omega) (show k ≤ 51 by omega)
        go_wp2
        go_round
        case rel => exact ⟨k + 1, q * 2, by go_num, by go_num, by omega, by omega, by rw [Nat.pow_succ, ← HQ.out.1], HS.out⟩
        case measure => simp [intOf]; omega
  · have q4 := order_53_not h53 hx
    have hEa : E ≤ (K : Int) - 1075 := by omega
    have hEb : (K : Int) - 1075 ≤ E := by omega
    clear hE0
    go_enter Tryz.func122, Tryz.ntmps122
    go_wp2_with (first | (go_at_call 124; refine (floor_any r _ (by omega)).mono ?_; rintro e w' ⟨rfl, rfl⟩))
    go_loop [12, 13] (fun t bit => ∃ k q : Nat, t = .int .i64 (k : Int) ∧ bit = .int .u64 (q : Int) ∧ k ≤ 52 ∧ q < 9007199254740992 ∧ Hid (q = 2 ^ k ∧ M % 2 ^ k = 0)) (fun t _ => 64 - (intOf t).toNat)
    case atStart => exact ⟨0, 1, rfl, rfl, by omega, by omega, rfl, Nat.mod_one _⟩
    case round =>
      obtain ⟨k, q, rfl, rfl, hk, hq, HQ⟩ := hrel
      have hand := and_bit M k q (by omega) (by omega) HQ.out.1
      by_cases hbit : M / 2 ^ k % 2 = 1
      · have HT : Hid (tz M = k) := tz_eq hM0 (by omega) HQ.out.2 hbit
        have hand1 : (bits .and .u64 (M : Int) (q : Int) == 0) = false := by
          rw [hand, hbit, beq_eq_false_iff_ne]
          have := Nat.two_pow_pos k
          omega
        obtain ⟨M2, hM2⟩ : ∃ M2 : Nat, (M : Int) / 2 ^ k = (M2 : Int) := ⟨M / 2 ^ k, by simp⟩
        have HM3 : Hid (M2 = M / 2 ^ k) := by
          have : ((M / 2 ^ k : Nat) : Int) = (M : Int) / 2 ^ k := by simp
          show M2 = M / 2 ^ k
          omega
        have hM4 : M2 ≤ M := by rw [HM3.out]; exact Nat.div_le_self _ _
        have hnd2 : nd M2 ≤ 16 := nd_le (by omega) (by omega) (Nat.lt_of_le_of_lt hM4 (Nat.lt_trans hM (by decide)))
        have hnd1 : 1 ≤ nd M2 := (nd_spec M2 (by omega)).2.1
        have HD2 : Hid ((dec M2).length = nd M2) := dec_length M2
        obtain ⟨U, HU⟩ : ∃ U : Nat, Hid (U = (E + k).natAbs) := ⟨_, rfl⟩
        have hU1 : U ≤ 1074 := by rw [HU.out]; omega
        have hnd3 : nd U ≤ 4 := nd_le (by omega) (by omega) (Nat.lt_of_le_of_lt hU1 (by decide))
        have HD3 : Hid ((dec U).length = nd U) := dec_length U
        clear hand hbit HQ
        go_wp2_with fail
        refine (lay_int b (bs.set 0 45) _ _ 1 M2 _ rfl rfl (by omega) hb hlen1 (by omega)).mono ?_
        rintro e w1 ⟨rfl, hb2, hs2⟩
        have hl2 : (put (bs.set 0 45) 1 (dec M2)).length = 24 := by rw [put_length (by rw [HD2.out]; omega), hlen1]
        obtain ⟨J, HJ⟩ : ∃ J : Nat, Hid (J = 1 + nd M2) := ⟨_, rfl⟩
        have hJ1 : J ≤ 17 := by rw [HJ.out]; omega
        have hJe : 1 + nd M2 = J := HJ.out.symm
        rw [hJe]
        clear hJe
        have ht2 : Hid ((put (bs.set 0 45) 1 (dec M2)).take J = (bs.set 0 45).take 1 ++ dec M2) := by
          have := put_take (bs := (bs.set 0 45)) (i := 1) (l := dec M2) (by rw [HD2.out]; omega)
          rw [HD2.out, ← HJ.out] at this
          exact this
        generalize put (bs.set 0 45) 1 (dec M2) = bs2 at *
        have hc2 := hb2.cell (i := J) (by omega)
        have hf2 := hb2.frozen J
        have hb3 : BB 5 b (bs2.set J 112) (w1.setCell ⟨b, J, none⟩ (.int .u8 112)) := hb2.set J (n := 112) (by omega) (by omega)
        have hs3 : Stp b _ (w1.setCell ⟨b, J, none⟩ (.int .u8 112)) := (hs1.trans hs2).setCell (.inl rfl) _
        have hl3 : (bs2.set J 112).length = 24 := by simp [hl2]
        have ht3 : Hid ((bs2.set J 112).take (J + 1) = bs2.take J ++ [112]) := set_take _ (by omega)
        generalize bs2.set J 112 = bs3 at *
        by_cases he : E + (k : Int) < 0
        · have hc3 := hb3.cell (i := J + 1) (by omega)
          have hf3 := hb3.frozen (J + 1)
          have hb4 : BB 5 b (bs3.set (J + 1) 45) ((w1.setCell ⟨b, J, none⟩ (.int .u8 112)).setCell ⟨b, J + 1, none⟩ (.int .u8 45)) := hb3.set (J + 1) (n := 45) (by omega) (by omega)
          have hs4 : Stp b _ ((w1.setCell ⟨b, J, none⟩ (.int .u8 112)).setCell ⟨b, J + 1, none⟩ (.int .u8 45)) := hs3.setCell (.inl rfl) _
          have hl4 : (bs3.set (J + 1) 45).length = 24 := by simp [hl3]
          have ht4 : Hid ((bs3.set (J + 1) 45).take (J + 2) = bs3.take (J + 1) ++ [45]) := set_take _ (by omega)
          generalize bs3.set (J + 1) 45 = bs4 at *
          go_wp2_with fail
          refine (lay_int b bs4 _ _ (J + 2) U _ (by omega) (by have := HU.out; omega) (by omega) hb4 hl4 (by omega)).mono ?_
          rintro e w2 ⟨rfl, hb5, hs5⟩
          have hcv := hb5.convPut (by rw [HD3.out]; omega) (n := J + 2 + nd U) (c := 24) (by rw [HD3.out])
          go_wp2
          go_ret
          refine ⟨ret_str ?_, ⟨_, hb5, by rw [put_length (by rw [HD3.out]; omega), hl4]⟩, hs4.trans hs5⟩
          rw [ht4.out, ht3.out, ht2.out, htk.out, HT.out, ← HM3.out, HU.out]
          unfold itoaL
          rw [if_pos he]
          simp
        · try (exfalso; omega)
          all_goals
            go_wp2_with fail
            refine (lay_int b bs3 _ _ (J + 1) U _ (by omega) (by have := HU.out; omega) (by omega) hb3 hl3 (by omega)).mono ?_
            rintro e w2 ⟨rfl, hb5, hs5⟩
            have hcv := hb5.convPut (by rw [HD3.out]; omega) (n := J + 1 + nd U) (c := 24) (by rw [HD3.out])
            go_wp2
            go_ret
            refine ⟨ret_str ?_, ⟨_, hb5, by rw [put_length (by rw [HD3.out]; omega), hl3]⟩, hs3.trans hs5⟩
            rw [ht3.out, ht2.out, htk.out, HT.out, ← HM3.out, HU.out]
            unfold itoaL
            rw [if_neg (by omega)]
            simp
      · have hand0 : bits .and .u64 (M : Int) (q : Int) = 0 := by
          rw [hand, show M / 2 ^ k % 2 = 0 from by omega]; simp
        have hstep : M % 2 ^ (k + 1) = 0 := by
          rw [Nat.pow_succ, Nat.mod_mul, HQ.out.2, show M / 2 ^ k % 2 = 0 from by omega]; simp
        have hk52 : k < 52 := by
          by_cases c : k < 52
          · exact c
          · have : k = 52 := by omega
            subst this
            omega
        have HS : Hid (M % 2 ^ (k + 1) = 0) := hstep
        clear hand hstep hbit
        have hq2 : q ≤ 2251799813685248 := by
          rw [HQ.out.1]
          exact Nat.pow_le_pow_right (n := 2) (by omega) (show k ≤ 51 by omega)
        go_wp2
        go_round
        case rel => exact ⟨k + 1, q * 2, by go_num, by go_num, by omega, by omega, by rw [Nat.pow_succ, ← HQ.out.1], HS.out⟩
        case measure => simp [intOf]; omega

theorem order_floor_whole {r : Nat} (h : r < 2047 * 2 ^ 52) (hw : Fl.Whole (magM r) (magE r)) : FloatKind.f64.format.order r (double.write ((double.read r).integral .down)) = some .eq := by
  rw [floor_whole h hw]; exact order_self r (by omega) (by omega)
theorem order_floor_not {r : Nat} (h : r < w53) (hw : ¬ Fl.Whole (magM r) (magE r)) : FloatKind.f64.format.order r (double.write ((double.read r).integral .down)) ≠ some .eq := by
  have hne := floor_not_whole h hw
  have hr : r < 2047 * 2 ^ 52 := by unfold w53 at h; omega
  have hle : double.write ((double.read r).integral .down) ≤ 2047 * 2 ^ 52 := by
    rw [floor_mag hr]
    by_cases h0 : Fl.wholeOf (magM r) (magE r) = 0
    · rw [h0, Fl.nearest_zero, Fl.word_false]; omega
    · rw [Fl.nearest_eq _ _ _ h0, Fl.word_false]; exact Nat.min_le_right _ _
  rw [order_eq, Fl.order_pos (by omega) hle]
  intro hh
  rcases Int.lt_trichotomy (r : Int) (double.write ((double.read r).integral .down) : Int) with c | c | c
  · rw [Fl.cmp_lt c] at hh; simp at hh
  · omega
  · rw [Fl.cmp_gt c] at hh; simp at hh
theorem toInt_whole {r : Nat} (h : r < w53) : floatToIntVal .f64 r .u64 = some ((Fl.wholeOf (magM r) (magE r) : Nat) : Int) := by
  have hr : r < 2047 * 2 ^ 52 := by unfold w53 at h; omega
  have h1 : (FloatKind.f64.decode r).toInt .zero = some (Fl.sg false (Fl.wholeOf (magM r) (magE r))) := Fl.toInt_read (read_mag hr)
  have hle := wholeOf_le h
  have hlt := magM_lt r
  unfold floatToIntVal
  rw [h1]
  have e : Fl.sg false (Fl.wholeOf (magM r) (magE r)) = ((Fl.wholeOf (magM r) (magE r) : Nat) : Int) := rfl
  have hmin : IntKind.u64.min = 0 := by decide +kernel
  have hmax : IntKind.u64.max = 18446744073709551615 := by decide +kernel
  simp only [e, hmin, hmax]
  rw [if_pos ⟨by omega, by omega⟩]

/-- (*num.Num).Format: the text, whole. -/
theorem format_any (n b : Nat) (bs : List UInt8) (x : Nat) (w : World) (hn : NumAt n b w) (hb : BB 5 b bs w) (hlen : bs.length = 24) (hx : x < 18446744073709551616) :
    Calls Tryz.prog 122 #[.pointer (some ⟨n, 0, none⟩), .int .u64 x] w fun e w' => e = .returned (.string ⟨(fmtP x).toArray⟩) ∧ (∃ bs', BB 5 b bs' w' ∧ bs'.length = 24) ∧ Stp b w w' := by
  have same : ∀ {e : Ending} {w' : World} {s : ByteArray}, e = .returned (.string s) ∧ w' = w → e = .returned (.string s) ∧ (∃ bs', BB 5 b bs' w' ∧ bs'.length = 24) ∧ Stp b w w' := by
    rintro e w' s ⟨rfl, rfl⟩
    exact ⟨rfl, ⟨bs, hb, hlen⟩, Stp.refl _ _⟩
  by_cases hnan : 2047 * 2 ^ 52 < x % 2 ^ 63
  · have : fmtP x = [110, 97, 110] := by unfold fmtP; rw [if_pos hnan]
    rw [this]
    exact (format_nan _ x w hnan).mono fun e w' h => same h
  · by_cases hneg : x < 2 ^ 63
    · have hm : x % 2 ^ 63 = x := Nat.mod_eq_of_lt hneg
      have hsg : sgP x = [] := by unfold sgP; rw [if_neg (by omega)]
      rw [hm] at hnan
      by_cases hinf : x = 2047 * 2 ^ 52
      · subst hinf
        have : fmtP (2047 * 2 ^ 52) = [105, 110, 102] := by unfold fmtP sgP; rw [if_neg (by decide), if_pos (by decide), if_neg (by decide)]; rfl
        rw [this]
        exact (format_inf _ w).mono fun e w' h => same h
      · have hr : x < 2047 * 2 ^ 52 := by omega
        have hf : fmtP x = finP x := by
          unfold fmtP; rw [hm, if_neg hnan, if_neg hinf, hsg]; rfl
        rw [hf]
        by_cases hw : x < w53 ∧ Fl.Whole (magM x) (magE x)
        · have hle := wholeOf_le hw.1
          have hlt := magM_lt x
          unfold finP
          rw [if_pos hw]
          exact format_whole_pos n b bs x _ w hn hb hlen hr hw.1 (by omega) (order_floor_whole hr hw.2) (toInt_whole hw.1)
        · have hx0 : 0 < x := by
            rcases Nat.eq_zero_or_pos x with h | h
            · subst h; exact absurd whole_zero hw
            · exact h
          unfold finP
          rw [if_neg hw]
          have := format_frac_pos n b bs x (x % 2 ^ 52) (x / 2 ^ 52) (magM x) (magE x) w hn hb hlen hr
            (fun h => hw ⟨h.1, by
              by_cases c : Fl.Whole (magM x) (magE x)
              · exact c
              · exact absurd h.2 (order_floor_not h.1 c)⟩)
            (mant_bits x hx)
            (by
              have := uand_2047 (x / 2 ^ 52) (by omega)
              rw [show ((x / 2 ^ 52 : Nat) : Int) = (x : Int) / 4503599627370496 from by omega] at this
              rw [this]; omega)
            (by omega) (by unfold w53; omega) (magM_pos hx0) (magM_lt x)
            (by
              unfold magM magE
              by_cases c : x < 2 ^ 52
              · left; rw [if_pos c, if_pos c]; omega
              · right; rw [if_neg c, if_neg c]
                refine ⟨by omega, ?_, by omega⟩
                rw [or_hidden _ (by omega)])
          exact this
    · obtain ⟨r, rfl⟩ : ∃ r, x = 2 ^ 63 + r := ⟨x - 2 ^ 63, by omega⟩
      have hm : (2 ^ 63 + r) % 2 ^ 63 = r := by omega
      have hsg : sgP (2 ^ 63 + r) = [45] := by unfold sgP; rw [if_pos (by omega)]
      rw [hm] at hnan
      by_cases hinf : r = 2047 * 2 ^ 52
      · subst hinf
        have : fmtP (2 ^ 63 + 2047 * 2 ^ 52) = [45, 105, 110, 102] := by unfold fmtP; rw [hm, if_neg (by decide), if_pos rfl, hsg]; rfl
        rw [this]
        exact (format_ninf _ w).mono fun e w' h => same h
      · have hr : r < 2047 * 2 ^ 52 := by omega
        have hf : fmtP (2 ^ 63 + r) = [45] ++ finP r := by
          unfold fmtP; rw [hm, if_neg hnan, if_neg hinf, hsg]
        rw [hf]
        by_cases hw : r < w53 ∧ Fl.Whole (magM r) (magE r)
        · have hle := wholeOf_le hw.1
          have hlt := magM_lt r
          unfold finP
          rw [if_pos hw]
          exact format_whole_neg n b bs r _ w hn hb hlen hr hw.1 (by omega) (order_floor_whole hr hw.2) (toInt_whole hw.1)
        · have hx0 : 0 < r := by
            rcases Nat.eq_zero_or_pos r with h | h
            · subst h; exact absurd whole_zero hw
            · exact h
          unfold finP
          rw [if_neg hw]
          have := format_frac_neg n b bs (2 ^ 63 + r) r (r % 2 ^ 52) (r / 2 ^ 52) (magM r) (magE r) w hn hb hlen rfl hr
            (fun h => hw ⟨h.1, by
              by_cases c : Fl.Whole (magM r) (magE r)
              · exact c
              · exact absurd h.2 (order_floor_not h.1 c)⟩)
            (by rw [mant_bits _ hx]; omega)
            (by
              have := uand_2047 ((2 ^ 63 + r) / 2 ^ 52) (by omega)
              rw [show (((2 ^ 63 + r) / 2 ^ 52 : Nat) : Int) = ((2 ^ 63 + r : Nat) : Int) / 4503599627370496 from by omega] at this
              rw [this]; omega)
            (by omega) (by unfold w53; omega) (magM_pos hx0) (magM_lt r)
            (by
              unfold magM magE
              by_cases c : r < 2 ^ 52
              · left; rw [if_pos c, if_pos c]; omega
              · right; rw [if_neg c, if_neg c]
                refine ⟨by omega, ?_, by omega⟩
                rw [or_hidden _ (by omega)])
          exact this

end Go.Proofs.Qxb6500293aGreatRR
