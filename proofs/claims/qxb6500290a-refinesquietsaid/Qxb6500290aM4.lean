import Derived.Test.Qxb6500290aM3
import Derived.Test.Qxb6500290aSf4
namespace Go.Proofs.Qxb6500290a
open Go.RowKit
open Ieee (double)
set_option linter.unusedVariables false

/-- What the two words' tests say, as the walk of mul meets them. -/
structure MulIn (a b ma mb : Nat) (ea eb : Int) : Prop where
  N1 : ∀ w, Calls Try.prog 61 #[.int .u64 a, .int .u64 b] w fun e w' => e = .returned (.bool false) ∧ w' = w
  I1 : ∀ w, Calls Try.prog 74 #[.int .u64 a, .int .u64 b] w fun e w' => e = .returned (.bool false) ∧ w' = w
  Z1 : ∀ w, Calls Try.prog 75 #[.int .u64 a, .int .u64 b] w fun e w' => e = .returned (.bool false) ∧ w' = w
  P1 : ∀ w, Calls Try.prog 66 #[.int .u64 a] w fun e w' => e = .returned (.tuple #[.int .u64 (ma : Nat), .int .i64 ea]) ∧ w' = w
  P2 : ∀ w, Calls Try.prog 66 #[.int .u64 b] w fun e w' => e = .returned (.tuple #[.int .u64 (mb : Nat), .int .i64 eb]) ∧ w' = w

theorem uand_32 (x : Nat) (hx : x < 18446744073709551616) : bits .and .u64 (x : Int) 4294967295 = ((x % 4294967296 : Nat) : Int) := by
  have := u64_and_nat x 4294967295 hx (by omega)
  rw [show (4294967295 : Nat) = 2 ^ 32 - 1 from rfl, Nat.and_two_pow_sub_one_eq_mod] at this
  exact this

theorem wrap_u64 (x : Nat) : IntKind.u64.wrap (x : Int) = ((x % 18446744073709551616 : Nat) : Int) := by
  simp [IntKind.wrap, IntKind.bits, IntKind.signed]
/-- Low half: the middle's low word shifted up, joined to the low word. -/
theorem or_lo (p q : Nat) (hq : q < 4294967296) : bits .or .u64 (IntKind.u64.wrap ((p : Int) * 4294967296)) (q : Int) = (((p * 4294967296) % 18446744073709551616 + q : Nat) : Int) := by
  rw [show (p : Int) * 4294967296 = ((p * 4294967296 : Nat) : Int) from by omega, wrap_u64, u64_or_nat _ _ (by omega) (by omega), nat_join 32 _ _ (by omega) (by omega)]
/-- One bit down over two words. -/
theorem or_down (L H : Nat) (hL : L < 18446744073709551616) : bits .or .u64 ((L : Int) / 2) (IntKind.u64.wrap ((H : Int) * 9223372036854775808)) = ((L / 2 + (H * 9223372036854775808) % 18446744073709551616 : Nat) : Int) := by
  rw [show (H : Int) * 9223372036854775808 = ((H * 9223372036854775808 : Nat) : Int) from by omega, wrap_u64, show (L : Int) / 2 = ((L / 2 : Nat) : Int) from by omega, u64_or_nat _ _ (by omega) (by omega), Nat.or_comm, nat_join 63 _ _ (by omega) (by omega), Nat.add_comm]

/-- The product's words after k bits have been cut off. -/
structure Cut (P k H L : Nat) (st : Bool) : Prop where
  lo : L = P / 2 ^ k % 18446744073709551616
  hi : H = P / 2 ^ k / 18446744073709551616
  st : st = (P % 2 ^ k != 0)
  big : k = 0 ∨ 9223372036854775808 ≤ P / 2 ^ k
theorem Cut.next {P k H L : Nat} {st : Bool} (h : Cut P k H L st) (hH : 0 < H) : Cut P (k + 1) (H / 2) (L / 2 + (H * 9223372036854775808) % 18446744073709551616) (if L % 2 = 1 then true else st) := by
  have e : P / 2 ^ (k + 1) = P / 2 ^ k / 2 := by rw [Nat.pow_succ, Nat.div_div_eq_div_mul]
  have h1 := h.lo
  have h2 := h.hi
  have h3 := h.st
  have e2 := Nat.mod_pow_succ (b := 2) (k := k) (x := P)
  have hk : 0 < 2 ^ k := Nat.two_pow_pos k
  generalize hX : P / 2 ^ k = X at *
  refine ⟨by rw [e]; omega, by rw [e]; omega, ?_, .inr (by rw [e]; omega)⟩
  rw [e2, h3]
  by_cases c : L % 2 = 1
  · rw [if_pos c, show X % 2 = 1 from by omega]
    symm; simp; try omega
  · rw [if_neg c, show X % 2 = 0 from by omega, Nat.mul_zero, Nat.add_zero]
theorem Cut.pack {P k L : Nat} {st : Bool} (h : Cut P k 0 L st) (s : Bool) (e : Int) : (st = true → 2 ^ 53 ≤ L) ∧ Fl.packP s L (e + k) st = double.nearest s P e := by
  have h1 := h.lo
  have h2 := h.hi
  have h3 := h.st
  have hb := h.big
  have hL : L = P / 2 ^ k := by
    generalize P / 2 ^ k = X at *
    omega
  have := Fl.pack_cut s P k e (by rcases hb with c | c; · exact .inl c
                                  · exact .inr (Nat.le_trans (by decide) c))
  rw [hL, h3]
  refine ⟨fun h => ?_, this⟩
  rcases hb with c | c
  · subst c; simp [Nat.mod_one] at h
  · exact Nat.le_trans (by decide) c

set_option maxHeartbeats 1600000 in
theorem mul_walk (a b m n : Nat) (i j : Int) (s : Bool) (w : World) (HI : Hid (MulIn a b m n i j)) (c : Nat) (hc : c < 18446744073709551616) (hx : bits .xor .u64 (a : Int) (b : Int) = (c : Int)) (hs : bits .and .u64 (c : Int) 9223372036854775808 = (sgW s : Int))
    (hm : m < 9007199254740992) (hn : n < 9007199254740992) (hi1 : -1074 ≤ i) (hi : i ≤ 1000) (hj1 : -1074 ≤ j) (hj : j ≤ 1000) 
    (a0 b0 : Nat) (ha0 : bits .and .u64 (m : Int) 4294967295 = (a0 : Int)) (hb0 : bits .and .u64 (n : Int) 4294967295 = (b0 : Int)) (la0 : a0 < 4294967296) (lb0 : b0 < 4294967296)
    (a1 b1 : Nat) (ha1 : (m : Int) / 4294967296 = (a1 : Int)) (hb1 : (n : Int) / 4294967296 = (b1 : Int)) (la1 : a1 < 2097152) (lb1 : b1 < 2097152)
    (P x y z u : Nat) (hx' : (a0 : Int) * (b0 : Int) = (x : Int)) (hy : (a1 : Int) * (b0 : Int) = (y : Int)) (hz : (a0 : Int) * (b1 : Int) = (z : Int)) (hu : (a1 : Int) * (b1 : Int) = (u : Int)) (lx : x < 18446744073709551616) (ly : y < 9007199254740992) (lz : z < 9007199254740992) (lu : u < 4398046511104)
    (mid mid0 mid2 x0 lo hh : Nat) (lmid : mid < 18446744073709551616) (hmid : (y : Int) + (x : Int) / 4294967296 = (mid : Int)) (hmid0 : bits .and .u64 (mid : Int) 4294967295 = (mid0 : Int)) (lmid0 : mid0 < 4294967296) (hmid2 : (z : Int) + (mid0 : Int) = (mid2 : Int)) (lmid2 : mid2 < 18446744073709551616)
    (hx0 : bits .and .u64 (x : Int) 4294967295 = (x0 : Int)) (lx0 : x0 < 4294967296)
    (hlo : bits .or .u64 (IntKind.u64.wrap ((mid2 : Int) * 4294967296)) (x0 : Int) = (lo : Int)) (llo : lo < 18446744073709551616) (hhh : (u : Int) + (mid : Int) / 4294967296 + (mid2 : Int) / 4294967296 = (hh : Int)) (lhh : hh < 4398046511104)
    (HC : Hid (Cut P 0 hh lo false)) (V : Nat) (HV : Hid (V = double.nearest s P (i + j))) :
    Calls Try.prog 57 #[.int .u64 a, .int .u64 b] w fun e w' => e = .returned (.int .u64 (V : Nat)) ∧ w' = w := by
  have hss := sgW_lt s
  generalize hSS : sgW s = SS at *
  go_enter Try.func57, Try.ntmps57
  go_wp2_with fail
  refine (HI.out.N1 _).mono ?_; rintro e w' ⟨rfl, rfl⟩
  go_wp2_with fail
  refine (HI.out.I1 _).mono ?_; rintro e w' ⟨rfl, rfl⟩
  go_wp2_with fail
  refine (HI.out.Z1 _).mono ?_; rintro e w' ⟨rfl, rfl⟩
  go_wp2_with fail
  refine (HI.out.P1 _).mono ?_; rintro e w' ⟨rfl, rfl⟩
  go_wp2_with fail
  refine (HI.out.P2 _).mono ?_; rintro e w' ⟨rfl, rfl⟩
  go_wp2_with fail
  go_loop [16, 17, 18, 19] (fun h l e t => ∃ (k H L : Nat) (st : Bool), h = .int .u64 (H : Int) ∧ l = .int .u64 (L : Int) ∧ e = .int .i64 (i + j + k) ∧ t = .bool st ∧ H < 4398046511104 ∧ L < 18446744073709551616 ∧ k ≤ 64 ∧ Hid (Cut P k H L st ∧ H * 2 ^ k ≤ hh)) (fun h _ _ _ => (intOf h).toNat)
  case atStart => exact ⟨0, hh, lo, false, rfl, rfl, by simp, rfl, lhh, llo, by omega, show _ ∧ _ from ⟨HC.out, by simp⟩⟩
  case round =>
    obtain ⟨k, H, L, st, rfl, rfl, rfl, rfl, hH, hL, hk, HM⟩ := hrel
    rcases Nat.eq_zero_or_pos H with h0 | h0
    · subst h0
      have hp := HM.out.1.pack s (i + j)
      clear ha0 hb0 ha1 hb1 hx' hy hz hu hmid hmid0 hmid2 hx0 hlo hhh
      go_wp2_with fail
      refine (pack_int s _ _ _ (i + j + k) L _ st _ (by rw [hSS]) rfl rfl rfl hL (by omega) (by omega) hp.1).mono ?_; rintro e w' ⟨rfl, rfl⟩
      go_wp2
      go_ret
      rw [HV.out]; exact ⟨rfl, rfl⟩
    · have e0 : ((H : Int) == 0) = false := by rw [beq_eq_false_iff_ne]; omega
      have q1 := uand_1 L hL
      have q2 := or_down L H hL
      have HM' : Hid (Cut P (k + 1) (H / 2) (L / 2 + (H * 9223372036854775808) % 18446744073709551616) (if L % 2 = 1 then true else st) ∧ H / 2 * 2 ^ (k + 1) ≤ hh) := by
        refine show _ ∧ _ from ⟨HM.out.1.next h0, Nat.le_trans ?_ HM.out.2⟩
        rw [Nat.pow_succ', ← Nat.mul_assoc]; exact Nat.mul_le_mul_right _ (by omega)
      have hk2 : k < 63 := by
        have h1 : 1 * 2 ^ k ≤ H * 2 ^ k := Nat.mul_le_mul_right _ h0
        have h2 := HM.out.2
        rcases Nat.lt_or_ge k 63 with c | c
        · exact c
        · have : 2 ^ 63 ≤ 2 ^ k := Nat.pow_le_pow_right (by omega) c
          omega
      have hL2 : L / 2 + (H * 9223372036854775808) % 18446744073709551616 < 18446744073709551616 := by omega
      generalize L / 2 + (H * 9223372036854775808) % 18446744073709551616 = L2 at *
      obtain ⟨H2, hH2, hH3⟩ : ∃ H2 : Nat, (H : Int) / 2 = (H2 : Int) ∧ H2 = H / 2 := ⟨H / 2, by omega, rfl⟩
      have hH4 : H2 < H := by omega
      rw [← hH3] at HM'
      clear hH3
      rcases (by omega : L % 2 = 0 ∨ L % 2 = 1) with c | c
      · rw [c] at q1
        have HM2 : Hid (Cut P (k + 1) H2 L2 st ∧ H2 * 2 ^ (k + 1) ≤ hh) := by
          have := HM'.out
          rw [if_neg (by omega)] at this; exact this
        clear HM' HM c ha0 hb0 ha1 hb1 hx' hy hz hu hmid hmid0 hmid2 hx0 hlo hhh
        go_wp2
        go_round
        case rel => exact ⟨k + 1, H2, L2, st, rfl, rfl, by congr 1; omega, rfl, by omega, hL2, by omega, HM2⟩
        case measure => simp [intOf]; omega
      · rw [c] at q1
        have HM2 : Hid (Cut P (k + 1) H2 L2 true ∧ H2 * 2 ^ (k + 1) ≤ hh) := by
          have := HM'.out
          rw [if_pos (by omega)] at this; exact this
        clear HM' HM c ha0 hb0 ha1 hb1 hx' hy hz hu hmid hmid0 hmid2 hx0 hlo hhh
        go_wp2
        go_round
        case rel => exact ⟨k + 1, H2, L2, true, rfl, rfl, by congr 1; omega, rfl, by omega, hL2, by omega, HM2⟩
        case measure => simp [intOf]; omega

theorem xor_sg (a b : Nat) (ha : a < 18446744073709551616) (hb : b < 18446744073709551616) : ∃ c : Nat, c < 18446744073709551616 ∧ bits .xor .u64 (a : Int) (b : Int) = (c : Int) ∧ bits .and .u64 (c : Int) 9223372036854775808 = (sgW (neg a ^^ neg b) : Int) ∧ c % 2 ^ 63 = (a % 2 ^ 63) ^^^ (b % 2 ^ 63) ∧ neg c = (neg a ^^ neg b) := by
  have hc : a ^^^ b < 2 ^ 64 := Nat.xor_lt_two_pow ha hb
  have hd : (a ^^^ b) / 2 ^ 63 = a / 2 ^ 63 ^^^ b / 2 ^ 63 := Nat.xor_div_two_pow
  have hneg : neg (a ^^^ b) = (neg a ^^ neg b) := by
    unfold neg
    have n1 : decide (2 ^ 63 ≤ a ^^^ b) = decide ((a ^^^ b) / 2 ^ 63 = 1) := decide_eq_decide.2 (by omega)
    rw [n1, hd]
    rcases (by omega : a / 2 ^ 63 = 0 ∨ a / 2 ^ 63 = 1) with h | h <;> rcases (by omega : b / 2 ^ 63 = 0 ∨ b / 2 ^ 63 = 1) with g | g <;> rw [h, g]
    · rw [decide_eq_false (by omega : ¬ 2 ^ 63 ≤ a), decide_eq_false (by omega : ¬ 2 ^ 63 ≤ b)]; rfl
    · rw [decide_eq_false (by omega : ¬ 2 ^ 63 ≤ a), decide_eq_true (by omega : 2 ^ 63 ≤ b)]; rfl
    · rw [decide_eq_true (by omega : 2 ^ 63 ≤ a), decide_eq_false (by omega : ¬ 2 ^ 63 ≤ b)]; rfl
    · rw [decide_eq_true (by omega : 2 ^ 63 ≤ a), decide_eq_true (by omega : 2 ^ 63 ≤ b)]; rfl
  exact ⟨a ^^^ b, hc, u64_xor_nat a b ha hb, by rw [and_sg _ hc, hneg], Nat.xor_mod_two_pow, hneg⟩

theorem sgW_word (s : Bool) : sgW s = double.word s 0 := by
  cases s
  · rw [Fl.word_false]; rfl
  · rw [Fl.word_true]; rfl

theorem mul_gen (a b : Nat) (w : World) (ha : a < 18446744073709551616) (hb : b < 18446744073709551616) (fa : a % 2 ^ 63 < 2047 * 2 ^ 52) (fb : b % 2 ^ 63 < 2047 * 2 ^ 52) (za : 0 < a % 2 ^ 63) (zb : 0 < b % 2 ^ 63) :
    Calls Try.prog 57 #[.int .u64 a, .int .u64 b] w fun e w' => e = .returned (.int .u64 (mulW a b : Nat)) ∧ w' = w := by
  have n1 : nanB a = false := decide_eq_false (by omega)
  have n2 : nanB b = false := decide_eq_false (by omega)
  have i1 : infB a = false := decide_eq_false (by omega)
  have i2 : infB b = false := decide_eq_false (by omega)
  have z1 : zerB a = false := decide_eq_false (by omega)
  have z2 : zerB b = false := decide_eq_false (by omega)
  have N1 := fun w => anyNaN_any a b w ha hb
  rw [n1, n2] at N1
  have I1 := fun w => anyInf_any a b w ha hb
  rw [i1, i2] at I1
  have Z1 := fun w => anyZero_any a b w ha hb
  rw [z1, z2] at Z1
  have HI : MulIn a b (magM (a % 2 ^ 63)) (magM (b % 2 ^ 63)) (magE (a % 2 ^ 63)) (magE (b % 2 ^ 63)) :=
    ⟨N1, I1, Z1, fun w => parts_any a w ha fa, fun w => parts_any b w hb fb⟩
  have HV := mulW_fin ha hb fa fb
  obtain ⟨c, hc, hx, hs, _, _⟩ := xor_sg a b ha hb
  have hma := magM_lt (a % 2 ^ 63)
  have hmb := magM_lt (b % 2 ^ 63)
  have hea := magE_ge (a % 2 ^ 63)
  have heb := magE_ge (b % 2 ^ 63)
  have hea2 := magE_le fa
  have heb2 := magE_le fb
  generalize magM (a % 2 ^ 63) = m at *
  generalize magM (b % 2 ^ 63) = n at *
  obtain ⟨a0, ha0⟩ : ∃ a0, a0 = m % 4294967296 := ⟨_, rfl⟩
  obtain ⟨a1, ha1⟩ : ∃ a1, a1 = m / 4294967296 := ⟨_, rfl⟩
  obtain ⟨b0, hb0⟩ : ∃ b0, b0 = n % 4294967296 := ⟨_, rfl⟩
  obtain ⟨b1, hb1⟩ : ∃ b1, b1 = n / 4294967296 := ⟨_, rfl⟩
  obtain ⟨x, hx'⟩ : ∃ x, x = a0 * b0 := ⟨_, rfl⟩
  obtain ⟨y, hy⟩ : ∃ y, y = a1 * b0 := ⟨_, rfl⟩
  obtain ⟨z, hz⟩ : ∃ z, z = a0 * b1 := ⟨_, rfl⟩
  obtain ⟨u, hu⟩ : ∃ u, u = a1 * b1 := ⟨_, rfl⟩
  have lx : x ≤ 4294967295 * 4294967295 := by rw [hx']; exact Nat.mul_le_mul (by omega) (by omega)
  have ly : y ≤ 2097151 * 4294967295 := by rw [hy]; exact Nat.mul_le_mul (by omega) (by omega)
  have lz : z ≤ 4294967295 * 2097151 := by rw [hz]; exact Nat.mul_le_mul (by omega) (by omega)
  have lu : u ≤ 2097151 * 2097151 := by rw [hu]; exact Nat.mul_le_mul (by omega) (by omega)
  have hP : m * n = u * 18446744073709551616 + (y + z) * 4294967296 + x := by
    have em : m = a1 * 4294967296 + a0 := by omega
    have en : n = b1 * 4294967296 + b0 := by omega
    rw [em, en, hx', hy, hz, hu]
    rw [Nat.add_mul, Nat.mul_add, Nat.mul_add]
    have e1 : a1 * 4294967296 * (b1 * 4294967296) = a1 * b1 * 18446744073709551616 := by
      rw [Nat.mul_mul_mul_comm]
    have e2 : a1 * 4294967296 * b0 = a1 * b0 * 4294967296 := Nat.mul_right_comm ..
    have e3 : a0 * (b1 * 4294967296) = a0 * b1 * 4294967296 := (Nat.mul_assoc ..).symm
    omega
  refine mul_walk a b m n _ _ _ w HI c hc hx hs (by omega) (by omega) hea (by omega) heb (by omega) a0 b0 ?_ ?_ (by omega) (by omega) a1 b1 (by omega) (by omega) (by omega) (by omega) (m * n) x y z u ?_ ?_ ?_ ?_ (by omega) (by omega) (by omega) (by omega)
    (y + x / 4294967296) ((y + x / 4294967296) % 4294967296) (z + (y + x / 4294967296) % 4294967296) (x % 4294967296)
    ((z + (y + x / 4294967296) % 4294967296) * 4294967296 % 18446744073709551616 + x % 4294967296) (u + (y + x / 4294967296) / 4294967296 + (z + (y + x / 4294967296) % 4294967296) / 4294967296)
    (by omega) (by omega) (uand_32 _ (by omega)) (by omega) (by omega) (by omega) (uand_32 _ (by omega)) (by omega) (or_lo _ _ (by omega)) (by omega) (by omega) (by omega) ?_ _ HV
  · rw [uand_32 m (by omega), ha0]
  · rw [uand_32 n (by omega), hb0]
  · rw [hx']; push_cast; rfl
  · rw [hy]; push_cast; rfl
  · rw [hz]; push_cast; rfl
  · rw [hu]; push_cast; rfl
  · refine show Cut _ _ _ _ _ from ⟨?_, ?_, ?_, .inl rfl⟩
    · rw [hP, Nat.pow_zero, Nat.div_one]; omega
    · rw [hP, Nat.pow_zero, Nat.div_one]; omega
    · simp [Nat.mod_one]

set_option maxHeartbeats 3200000 in
theorem mul_any (a b : Nat) (w : World) (ha : a < 18446744073709551616) (hb : b < 18446744073709551616) :
    Calls Try.prog 57 #[.int .u64 a, .int .u64 b] w fun e w' => e = .returned (.int .u64 (mulW a b : Nat)) ∧ w' = w := by
  have N1 := fun w => anyNaN_any a b w ha hb
  by_cases cn : 2047 * 2 ^ 52 < a % 2 ^ 63 ∨ 2047 * 2 ^ 52 < b % 2 ^ 63
  · have HV : Hid (mulW a b = nanV) := mulW_nan cn
    rw [show (nanB a || nanB b) = true from by unfold nanB; rcases cn with h | h <;> simp [h]] at N1
    clear cn
    go_enter Try.func57, Try.ntmps57
    go_wp2_with fail
    refine (N1 _).mono ?_; rintro e w' ⟨rfl, rfl⟩
    go_wp2
    go_ret
    rw [HV.out]; exact ⟨rfl, rfl⟩
  rw [show (nanB a || nanB b) = false from by unfold nanB; simp; omega] at N1
  obtain ⟨c, hc, hx, hs, _, _⟩ := xor_sg a b ha hb
  have hss := sgW_lt (neg a ^^ neg b)
  have I1 := fun w => anyInf_any a b w ha hb
  have Z1 := fun w => anyZero_any a b w ha hb
  by_cases ci : a % 2 ^ 63 = 2047 * 2 ^ 52 ∨ b % 2 ^ 63 = 2047 * 2 ^ 52
  · have HV := mulW_inf ha hb (by omega) (by omega) ci
    rw [show (infB a || infB b) = true from by unfold infB; rcases ci with h | h <;> simp [h]] at I1
    by_cases cz : a % 2 ^ 63 = 0 ∨ b % 2 ^ 63 = 0
    · rw [if_pos cz] at HV
      have HV : Hid (mulW a b = nanV) := HV
      rw [show (zerB a || zerB b) = true from by unfold zerB; rcases cz with h | h <;> simp [h]] at Z1
      clear cn ci cz
      generalize sgW (neg a ^^ neg b) = SS at *
      go_enter Try.func57, Try.ntmps57
      go_wp2_with fail
      refine (N1 _).mono ?_; rintro e w' ⟨rfl, rfl⟩
      go_wp2_with fail
      refine (I1 _).mono ?_; rintro e w' ⟨rfl, rfl⟩
      go_wp2_with fail
      refine (Z1 _).mono ?_; rintro e w' ⟨rfl, rfl⟩
      go_wp2
      go_ret
      rw [HV.out]; exact ⟨rfl, rfl⟩
    · rw [if_neg cz] at HV
      have hor := or_inf (neg a ^^ neg b)
      have HV : Hid (mulW a b = double.word (neg a ^^ neg b) 9218868437227405312) := HV
      rw [show (zerB a || zerB b) = false from by unfold zerB; simp; omega] at Z1
      clear cn ci cz
      generalize double.word (neg a ^^ neg b) 9218868437227405312 = V at *
      generalize sgW (neg a ^^ neg b) = SS at *
      go_enter Try.func57, Try.ntmps57
      go_wp2_with fail
      refine (N1 _).mono ?_; rintro e w' ⟨rfl, rfl⟩
      go_wp2_with fail
      refine (I1 _).mono ?_; rintro e w' ⟨rfl, rfl⟩
      go_wp2_with fail
      refine (Z1 _).mono ?_; rintro e w' ⟨rfl, rfl⟩
      go_wp2
      go_ret
      rw [HV.out]; exact ⟨by first | rfl | rw [hor], rfl⟩
  rw [show (infB a || infB b) = false from by unfold infB; simp; omega] at I1
  by_cases cz : a % 2 ^ 63 = 0 ∨ b % 2 ^ 63 = 0
  · have HV : Hid (mulW a b = sgW (neg a ^^ neg b)) := by
      rw [sgW_word]; exact mulW_zero ha hb (by omega) (by omega) cz
    rw [show (zerB a || zerB b) = true from by unfold zerB; rcases cz with h | h <;> simp [h]] at Z1
    clear cn ci cz
    generalize sgW (neg a ^^ neg b) = SS at *
    go_enter Try.func57, Try.ntmps57
    go_wp2_with fail
    refine (N1 _).mono ?_; rintro e w' ⟨rfl, rfl⟩
    go_wp2_with fail
    refine (I1 _).mono ?_; rintro e w' ⟨rfl, rfl⟩
    go_wp2_with fail
    refine (Z1 _).mono ?_; rintro e w' ⟨rfl, rfl⟩
    go_wp2
    go_ret
    rw [HV.out]; exact ⟨rfl, rfl⟩
  exact mul_gen a b w ha hb (by omega) (by omega) (by omega) (by omega)
end Go.Proofs.Qxb6500290a
