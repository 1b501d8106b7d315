/-
  constant walked.
-/
import Derived.Test.Qxb6500293aGreatRRL2
import Derived.Test.Qxb6500293aGreatRRZ9
import Derived.Test.Qxb6500293aGreatRRY5
namespace Go.Proofs.Qxb6500293aGreatRR
open Go.RowKit
open Ieee (double)
set_option linter.unusedVariables false
set_option linter.unusedSimpArgs false

theorem Tryz.underlying183 : Tryz.prog.underlying 183 = some (.array 8 5) := by kernel_rfl
theorem arr8_at (b k cap : Nat) (w : World) (h : 8 ≤ 8) : (Instr.arrayAt 183 (.slice (some ⟨b, k, none⟩) 8 cap)).run Tryz.prog w = .ok (.pointer (some ⟨b, k, none⟩)) w := by
  simp [Instr.arrayAt, run_underlying Tryz.underlying183]
/-- The high bytes read so far. -/
def hi8 (f : Nat → Nat) : Nat → Nat
  | 0 => 0
  | c + 1 => hi8 f c * 256 + f (7 - c)
theorem hi8_lt {f : Nat → Nat} (hf : ∀ j, f j < 256) : ∀ c, hi8 f c < 256 ^ c
  | 0 => by simp [hi8]
  | c + 1 => by
    have h1 := hi8_lt hf c
    have h2 := hf (7 - c)
    show hi8 f c * 256 + f (7 - c) < 256 ^ (c + 1)
    rw [Nat.pow_succ]
    omega
theorem hi8_le (l : List UInt8) : hi8 (byte l) 8 = le8 l := by
  show (((((((0 * 256 + byte l 7) * 256 + byte l 6) * 256 + byte l 5) * 256 + byte l 4) * 256 + byte l 3) * 256 + byte l 2) * 256 + byte l 1) * 256 + byte l 0 = le8 l
  unfold le8
  omega
theorem or_shl (x b : Nat) (hx : x < 72057594037927936) (hb : b < 256) : bits .or .u64 ((x : Int) * 256) (b : Int) = ((x * 256 + b : Nat) : Int) := by
  have := u64_or_nat (x * 256) b (by omega) (by omega)
  rw [show ((x * 256 : Nat) : Int) = (x : Int) * 256 by omega] at this
  rw [this, nat_join 8 _ _ (by omega) hb]
set_option maxRecDepth 8000 in
set_option maxHeartbeats 1600000 in
theorem const_any {own : Nat → Nat} {W : World} {m a nb tp rb bb cap : Nat} {M : Mc} {r : Rd} (HV : Vm own W m a nb tp M) (h0 : own rb = 0) (h1 : own bb = 0) (HR : RdAt W rb bb cap r) (hks : M.ks.length ≤ 40000) :
    Calls Tryz.prog 81 #[.pointer (some ⟨m, 0, none⟩), .pointer (some ⟨rb, 0, none⟩)] W fun e w' => e = .returned (.tuple #[]) ∧ Rp own W m a nb tp rb bb cap [] { M with ks := (constP r M.ks).2 } (constP r M.ks).1 w' := by
  have R0 := Rp.start HV h0 h1 HR
  have HU := u8_any HR
  have HC : Hid (constP r M.ks = if (u8P r).2 = 1 then const1 (u8P r).1 M.ks else if (u8P r).2 = 2 then const2 (u8P (u8P r).1).1 (u8P (u8P r).1).2 M.ks else ((u8P r).1.spoil, M.ks)) := rfl
  have hlt := u8_lt r
  generalize (u8P r).2 = tag at *
  generalize (u8P r).1 = r1 at *
  clear HV h0 h1 HR
  by_cases t1 : tag = 1
  · subst t1
    have HC2 : Hid (constP r M.ks = const1 r1 M.ks) := by rw [HC.out]; exact if_pos rfl
    clear HC
    go_enter Tryz.func81, Tryz.ntmps81
    go_wp2_with fail
    refine HU.mono ?_; rintro e w1 ⟨rfl, hR1, hS1⟩
    have R1 := R0.turn hS1 hR1
    have HT := take_any R1.rd 8 (by omega)
    have hI := R1.rd.i
    clear hR1 hS1 HU R0
    go_wp2_with fail
    refine HT.mono ?_; rintro e w2 ⟨hv, hR2, hS2⟩
    have R2 := R1.turn hS2 hR2
    obtain ⟨c0, c1, c2, cz⟩ := hR2.c
    have hlr := hR2.lt
    clear R1 HT hS2
    rcases hv with ⟨hb, rfl⟩ | ⟨hb, k0, c, rfl, hc, hk⟩
    · rw [hb] at c2
      have HRp : Hid (Rp own W m a nb tp rb bb cap [] { M with ks := (constP r M.ks).2 } (constP r M.ks).1 w2) := by
        show Rp _ _ _ _ _ _ _ _ _ _ _ _ _
        rw [HC2.out]
        unfold const1
        rw [if_pos hb]
        exact R2
      clear R2 hR2
      go_wp2_with fail
      refine bodyPost_ret (results_none rfl _ _ _) rfl ?_
      exact ⟨rfl, HRp.out⟩
    · rw [hb] at c2
      have hk := hk (by omega)
      subst hk
      have hw : ∀ j, j < 8 → w2.cell? ⟨bb, r1.i + j, none⟩ = some (.int .u8 (byte (takeP r1 8).2 j : Int)) := fun j hj => hR2.win (r := r1) (take_bs r1 8) hb hI hj
      have q0 := hw 0 (by omega)
      rw [Nat.add_zero] at q0
      have q1 := hw 1 (by omega)
      have q2 := hw 2 (by omega)
      have q3 := hw 3 (by omega)
      have q4 := hw 4 (by omega)
      have q5 := hw 5 (by omega)
      have q6 := hw 6 (by omega)
      have q7 := hw 7 (by omega)
      have hbl := hR2.by'.1
      have HLE : Hid (hi8 (byte (takeP r1 8).2) 8 = le8 (takeP r1 8).2 ∧ ∀ j, byte (takeP r1 8).2 j < 256) := ⟨hi8_le _, byte_lt _⟩
      have HC3 : Hid (constP r M.ks = ((takeP r1 8).1.or (badN (le8 (takeP r1 8).2)), M.ks ++ [numV (le8 (takeP r1 8).2)])) := by
        show _ = _
        rw [HC2.out]
        unfold const1
        rw [if_neg (by rw [hb]; decide)]
      have ha8 := arr8_at bb r1.i c w2 (by decide)
      rw [← HLE.out.1] at HC3
      have hby := HLE.out.2
      generalize le8 (takeP r1 8).2 = x8 at *
      generalize byte (takeP r1 8).2 = f at *
      generalize (takeP r1 8).1 = r2 at *
      clear hw HC2 hR2 HLE
      clear hI hk
      generalize r1.i = ri at *
      obtain ⟨own2, hv2, -, -, -, -⟩ := R2.vm
      have c0m : w2.cell? ⟨m, 0, none⟩ = some (.pointer (some ⟨nb, 0, none⟩)) := hv2.tabR.2.2.2.1
      have hml : m < w2.heap.size := hv2.tabR.2.2.2.2
      clear hv2 c0 c1
      go_wp2_with fail
      have R3 := R2.alloc (.cells #[.int .u8 (f 0 : Int), .int .u8 (f 1 : Int), .int .u8 (f 2 : Int), .int .u8 (f 3 : Int), .int .u8 (f 4 : Int), .int .u8 (f 5 : Int), .int .u8 (f 6 : Int), .int .u8 (f 7 : Int)] 183) rfl
      have hba := (R3.box (b := w2.heap.size) List.mem_cons_self).1
      have c0m := ((below_one w2 (.cells #[.int .u8 (f 0 : Int), .int .u8 (f 1 : Int), .int .u8 (f 2 : Int), .int .u8 (f 3 : Int), .int .u8 (f 4 : Int), .int .u8 (f 5 : Int), .int .u8 (f 6 : Int), .int .u8 (f 7 : Int)] 183)).cell (p := ⟨m, 0, none⟩) hml).trans c0m
      have HG : Hid (∀ k, k < 8 → (w2.alloc (.cells #[.int .u8 (f 0 : Int), .int .u8 (f 1 : Int), .int .u8 (f 2 : Int), .int .u8 (f 3 : Int), .int .u8 (f 4 : Int), .int .u8 (f 5 : Int), .int .u8 (f 6 : Int), .int .u8 (f 7 : Int)] 183)).cell? ⟨w2.heap.size, k, none⟩ = some (.int .u8 (f k : Int))) := by
        intro k hk
        rw [box_cell hba]
        rcases (by omega : k = 0 ∨ k = 1 ∨ k = 2 ∨ k = 3 ∨ k = 4 ∨ k = 5 ∨ k = 6 ∨ k = 7) with rfl | rfl | rfl | rfl | rfl | rfl | rfl | rfl <;> rfl
      obtain ⟨d0, d1, d2, dz⟩ := R3.rd.c
      have hlr := R3.rd.lt
      rw [hb] at d2
      have hml : m < (w2.alloc (.cells #[.int .u8 (f 0 : Int), .int .u8 (f 1 : Int), .int .u8 (f 2 : Int), .int .u8 (f 3 : Int), .int .u8 (f 4 : Int), .int .u8 (f 5 : Int), .int .u8 (f 6 : Int), .int .u8 (f 7 : Int)] 183)).heap.size := by simp only [World.size_alloc]; omega
      clear q0 q1 q2 q3 q4 q5 q6 q7 R2 hba c2 cz d0 d1 ha8 hbl hc hlt
      have hab : w2.heap.size < (w2.alloc (.cells #[.int .u8 (f 0 : Int), .int .u8 (f 1 : Int), .int .u8 (f 2 : Int), .int .u8 (f 3 : Int), .int .u8 (f 4 : Int), .int .u8 (f 5 : Int), .int .u8 (f 6 : Int), .int .u8 (f 7 : Int)] 183)).heap.size := by simp only [World.size_alloc]; omega
      generalize (w2.alloc (.cells #[.int .u8 (f 0 : Int), .int .u8 (f 1 : Int), .int .u8 (f 2 : Int), .int .u8 (f 3 : Int), .int .u8 (f 4 : Int), .int .u8 (f 5 : Int), .int .u8 (f 6 : Int), .int .u8 (f 7 : Int)] 183)) = w3 at *
      generalize w2.heap.size = ab at *
      have HB : Hid (∀ j, f j < 256) := hby
      clear hby
      go_loop [7, 8] (fun xv jv => ∃ c x : Nat, jv = .int .i64 ((7 : Int) - (c : Int)) ∧ xv = .int .u64 (x : Int) ∧ c ≤ 8 ∧ Hid (x = hi8 f c)) (fun _ jv => (intOf jv + 1).toNat)
      case atStart => exact ⟨0, 0, rfl, rfl, by omega, rfl⟩
      case round =>
        obtain ⟨c, x, rfl, rfl, hc8, HXc⟩ := hrel
        by_cases hc : c < 8
        · obtain ⟨k, hk⟩ : ∃ k, k + c = 7 := ⟨7 - c, by omega⟩
          have e7 : (7 : Int) - (c : Int) = (k : Int) := by omega
          rw [e7]
          have hx : x < 72057594037927936 := by
            have h1 := hi8_lt HB.out c
            have h2 : 256 ^ c ≤ 256 ^ 7 := Nat.pow_le_pow_right (by omega) (by omega)
            rw [HXc.out]
            exact Nat.lt_of_lt_of_le h1 h2
          have hfk := HB.out k
          have hg := HG.out k (by omega)
          have HN : Hid (x * 256 + f k = hi8 f (c + 1)) := by
            show _ = hi8 f c * 256 + f (7 - c)
            rw [HXc.out, show 7 - c = k by omega]
          have hor := or_shl x (f k) hx hfk
          have hk8 : k < 8 := by omega
          generalize f k = fk at *
          clear HXc
          go_wp2_with fail
          go_round
          case rel => exact ⟨c + 1, x * 256 + fk, by congr 1; omega, by go_num, by omega, HN.out⟩
          case measure => simp [intOf]
        · have hc8 : c = 8 := by omega
          subst hc8
          have hx := hi8_lt HB.out 8
          rw [← HXc.out] at hx HC3
          have hx64 : x < 18446744073709551616 := hx
          clear HXc hx HG HB hab hc8 hc
          have HCMP := fun W => cmp_R (.pointer (some ⟨nb, 0, none⟩)) 2 x x W
          have hself := cmp_self hx64
          by_cases hnan : 2047 * 2 ^ 52 < x % 2 ^ 63
          · have hcw : cmpW 2 (double.order x x) = true := by rw [hself]; exact decide_eq_true hnan
            simp only [hcw] at HCMP
            clear hcw hself
            by_cases hnb : x = nanBits
            · have hq : ((x : Int) != 9221120237041090561) = false := by
                have : (x : Int) = 9221120237041090561 := by unfold nanBits at hnb; omega
                rw [this]; decide
              have HCQ : Hid (constP r M.ks = (r2, M.ks ++ [numV x])) := by
                show _ = _
                have e : badN x = false := by unfold badN; rw [decide_eq_false (p := x ≠ nanBits) (fun h => h hnb), Bool.and_false]
                rw [HC3.out, e]
                unfold Rd.or
                rw [Bool.or_false]
              clear hnb
              clear hnan HC3
              have R5 := R3
              clear R3
              obtain ⟨own5, hv5, -, -, hN5, -⟩ := R5.vm
              obtain ⟨ad, cp, ad', cp', w6, f0, happ, f1, f2, hNf, -⟩ := hv5.ksApp (by omega) (numV x)
              have R6 := hN5 _ _ (hNf 0).1
              rw [show (valC (numV x)).toArray = #[.int .i64 2, .int .u64 (x : Int), .string ⟨#[]⟩] from rfl] at happ
              try simp only [size_set] at happ f0
              have hml5 := hv5.tabR.2.2.2.2
              have HRp : Hid (Rp own W m a nb tp rb bb cap [] { M with ks := (constP r M.ks).2 } (constP r M.ks).1 (w6.setCell ⟨m, 4, none⟩ (.slice ad' (M.ks.length + 1) cp'))) := by
                show Rp _ _ _ _ _ _ _ _ _ _ _ _ _
                rw [HCQ.out]
                exact R6.drop
              clear R5 R6 hv5 hN5 hNf HCQ
              generalize M.ks.length = kl at *
              go_wp2_with (fail)
              refine (HCMP _).mono ?_; rintro e w4 ⟨rfl, hd4⟩; have hd4 := hd4.symm; subst hd4
              clear HCMP
              go_wp2_with (at_builtin; refine wpList_append_eq rfl _ _ 53 rfl _ _ _ _ rfl rfl happ ?_)
              go_end0
              exact ⟨rfl, HRp.out⟩
            · have hq : ((x : Int) != 9221120237041090561) = true := by
                rw [bne_iff_ne]; unfold nanBits at hnb; omega
              have HCQ : Hid (constP r M.ks = (r2.spoil, M.ks ++ [numV x])) := by
                show _ = _
                have e : badN x = true := by unfold badN; rw [decide_eq_true (p := x ≠ nanBits) hnb, decide_eq_true hnan]; rfl
                rw [HC3.out, e]
                unfold Rd.or Rd.spoil
                rw [Bool.or_true]
              clear hnan HC3 hnb
              have hcw3 := R3.rd.c.2.2.2
              have R5 := R3.turn (Stp.setR _ _ _ _) R3.rd.spoilt
              clear R3
              obtain ⟨own5, hv5, -, -, hN5, -⟩ := R5.vm
              obtain ⟨ad, cp, ad', cp', w6, f0, happ, f1, f2, hNf, -⟩ := hv5.ksApp (by omega) (numV x)
              have R6 := hN5 _ _ (hNf 0).1
              rw [show (valC (numV x)).toArray = #[.int .i64 2, .int .u64 (x : Int), .string ⟨#[]⟩] from rfl] at happ
              try simp only [size_set] at happ f0
              have hml5 := hv5.tabR.2.2.2.2
              have HRp : Hid (Rp own W m a nb tp rb bb cap [] { M with ks := (constP r M.ks).2 } (constP r M.ks).1 (w6.setCell ⟨m, 4, none⟩ (.slice ad' (M.ks.length + 1) cp'))) := by
                show Rp _ _ _ _ _ _ _ _ _ _ _ _ _
                rw [HCQ.out]
                exact R6.drop
              clear R5 R6 hv5 hN5 hNf HCQ
              generalize M.ks.length = kl at *
              go_wp2_with (fail)
              refine (HCMP _).mono ?_; rintro e w4 ⟨rfl, hd4⟩; have hd4 := hd4.symm; subst hd4
              clear HCMP
              go_wp2_with (at_builtin; refine wpList_append_eq rfl _ _ 53 rfl _ _ _ _ rfl rfl happ ?_)
              go_end0
              exact ⟨rfl, HRp.out⟩
          · have hcw : cmpW 2 (double.order x x) = false := by rw [hself]; exact decide_eq_false hnan
            simp only [hcw] at HCMP
            clear hcw hself
            have HCQ : Hid (constP r M.ks = (r2, M.ks ++ [numV x])) := by
              show _ = _
              have e : badN x = false := by unfold badN; rw [decide_eq_false hnan, Bool.false_and]
              rw [HC3.out, e]
              unfold Rd.or
              rw [Bool.or_false]
            clear hnan HC3
            have R5 := R3
            clear R3
            obtain ⟨own5, hv5, -, -, hN5, -⟩ := R5.vm
            obtain ⟨ad, cp, ad', cp', w6, f0, happ, f1, f2, hNf, -⟩ := hv5.ksApp (by omega) (numV x)
            have R6 := hN5 _ _ (hNf 0).1
            rw [show (valC (numV x)).toArray = #[.int .i64 2, .int .u64 (x : Int), .string ⟨#[]⟩] from rfl] at happ
            try simp only [size_set] at happ f0
            have hml5 := hv5.tabR.2.2.2.2
            have HRp : Hid (Rp own W m a nb tp rb bb cap [] { M with ks := (constP r M.ks).2 } (constP r M.ks).1 (w6.setCell ⟨m, 4, none⟩ (.slice ad' (M.ks.length + 1) cp'))) := by
              show Rp _ _ _ _ _ _ _ _ _ _ _ _ _
              rw [HCQ.out]
              exact R6.drop
            clear R5 R6 hv5 hN5 hNf HCQ
            generalize M.ks.length = kl at *
            go_wp2_with (fail)
            refine (HCMP _).mono ?_; rintro e w4 ⟨rfl, hd4⟩; have hd4 := hd4.symm; subst hd4
            clear HCMP
            go_wp2_with (at_builtin; refine wpList_append_eq rfl _ _ 53 rfl _ _ _ _ rfl rfl happ ?_)
            go_end0
            exact ⟨rfl, HRp.out⟩
  by_cases t2 : tag = 2
  · subst t2
    have HC2 : Hid (constP r M.ks = const2 (u8P r1).1 (u8P r1).2 M.ks) := by rw [HC.out]; exact (if_neg (by decide)).trans (if_pos rfl)
    clear HC t1
    go_enter Tryz.func81, Tryz.ntmps81
    go_wp2_with fail
    refine HU.mono ?_; rintro e w1 ⟨rfl, hR1, hS1⟩
    have R1 := R0.turn hS1 hR1
    have HU2 := u8_any R1.rd
    have hl2 := u8_lt r1
    clear hR1 hS1 HU R0
    generalize (u8P r1).2 = l at *
    generalize (u8P r1).1 = r2 at *
    go_wp2_with fail
    refine HU2.mono ?_; rintro e w2 ⟨rfl, hR2, hS2⟩
    have R2 := R1.turn hS2 hR2
    clear R1 hS2 HU2 hR2
    by_cases h40 : 40 < l
    · have hd : decide ((40 : Int) < (l : Int)) = true := decide_eq_true (by omega)
      have e : r2.or (decide (40 < l)) = r2.spoil := by rw [decide_eq_true h40]; unfold Rd.or Rd.spoil; rw [Bool.or_true]
      have HCQ : Hid (constP r M.ks = (r2.spoil, M.ks ++ [str []])) := by
        show _ = _
        rw [HC2.out]
        unfold const2
        rw [e, take_bad (.inl rfl)]
        rfl
      obtain ⟨d0, d1, d2, dz⟩ := R2.rd.c
      have hlr := R2.rd.lt
      have R3 := R2.turn (Stp.setR _ _ _ _) R2.rd.spoilt
      have HT := take_any R3.rd l (by omega)
      clear HC2 e h40 R2 d0 d1
      go_wp2_with fail
      refine HT.mono ?_; rintro e w4 ⟨hv, hR4, hS4⟩
      have R4 := R3.turn hS4 hR4
      rw [take_bad (.inl rfl)] at R4
      have R4 : Rp own W m a nb tp rb bb cap [] M r2.spoil w4 := R4
      clear R3 HT hR4 hS4
      rcases hv with ⟨hb, rfl⟩ | ⟨hb, _⟩
      rotate_left
      · rw [take_bad (.inl rfl)] at hb; cases hb
      clear hb
      have hconv : (convert 59 9 (.slice none 0 0)).run Tryz.prog w4.drew = .ok (.string ⟨#[]⟩) w4.drew := row_str (l := []) (World.ownsRow_nil _ _ _ _)
      have R5 := R4.drewN 1
      obtain ⟨own5, hv5, -, -, hN5, -⟩ := R5.vm
      obtain ⟨ad, cp, ad', cp', w6, f00, happ0, f1, f2, hNf, -⟩ := hv5.ksApp (by omega) (str ([] : List UInt8))
      have R6 := hN5 _ _ (hNf 0).1
      have happ : (Builtin.append_ #[53, 53] 53 #[.slice ad M.ks.length cp, .slice (some ⟨w4.heap.size, 0, none⟩) 1 1]).run Tryz.prog ((w4.drew).alloc (.cells #[.int .i64 3, .int .u64 0, .string ⟨([] : List UInt8).toArray⟩] 33)) = .ok (.slice ad' (M.ks.length + 1) cp') w6 := happ0
      have f0 : w4.cell? ⟨m, 4, none⟩ = some (.slice ad M.ks.length cp) := f00
      have hml5 : m < w4.heap.size := hv5.tabR.2.2.2.2
      have HRp : Hid (Rp own W m a nb tp rb bb cap [] { M with ks := (constP r M.ks).2 } (constP r M.ks).1 (w6.setCell ⟨m, 4, none⟩ (.slice ad' (M.ks.length + 1) cp'))) := by
        show Rp _ _ _ _ _ _ _ _ _ _ _ _ _
        rw [HCQ.out]
        exact R6.drop
      clear R5 R6 hv5 hN5 hNf HCQ R4 happ0 f00
      generalize M.ks.length = kl at *
      go_wp2_with fail
      go_region_law (refine step_append_eq rfl (.tmp 83) (.tmp 87) 53 rfl _ _ _ _ (by simp [Act.eval, Act.put]) (by simp [Act.eval, Act.put]) happ ?_)
      all_goals
        go_wp2_with fail
        go_end0
        exact ⟨rfl, HRp.out⟩
    · have hd : decide ((40 : Int) < (l : Int)) = false := decide_eq_false (by omega)
      have e : r2.or (decide (40 < l)) = r2 := by rw [decide_eq_false h40]; unfold Rd.or; rw [Bool.or_false]
      have HC3 : Hid (constP r M.ks = ((takeP r2 l).1, M.ks ++ [str (takeP r2 l).2])) := by
        show _ = _
        rw [HC2.out]
        unfold const2
        rw [e]
      have HT := take_any R2.rd l (by omega)
      have HI : Hid (r2.i ≤ r2.bs.length) := R2.rd.i
      clear HC2 e h40
      go_wp2_with fail
      refine HT.mono ?_; rintro e w4 ⟨hv, hR4, hS4⟩
      have R4 := R2.turn hS4 hR4
      clear R2 HT hS4
      rcases hv with ⟨hb, rfl⟩ | ⟨hb, k0, c, rfl, hc, hk⟩
      · have HCQ : Hid (constP r M.ks = ((takeP r2 l).1, M.ks ++ [str []])) := by
          show _ = _
          rw [HC3.out]
          have e : (takeP r2 l).2 = [] := by
            unfold takeP at hb ⊢
            split
            · rfl
            · rename_i c
              rw [if_neg c] at hb
              exact absurd (.inl hb) c
          rw [e]
        clear hb hR4 HC3
        have hconv : (convert 59 9 (.slice none 0 0)).run Tryz.prog w4.drew = .ok (.string ⟨#[]⟩) w4.drew := row_str (l := []) (World.ownsRow_nil _ _ _ _)
        have R5 := R4.drewN 1
        obtain ⟨own5, hv5, -, -, hN5, -⟩ := R5.vm
        obtain ⟨ad, cp, ad', cp', w6, f00, happ0, f1, f2, hNf, -⟩ := hv5.ksApp (by omega) (str ([] : List UInt8))
        have R6 := hN5 _ _ (hNf 0).1
        have happ : (Builtin.append_ #[53, 53] 53 #[.slice ad M.ks.length cp, .slice (some ⟨w4.heap.size, 0, none⟩) 1 1]).run Tryz.prog ((w4.drew).alloc (.cells #[.int .i64 3, .int .u64 0, .string ⟨([] : List UInt8).toArray⟩] 33)) = .ok (.slice ad' (M.ks.length + 1) cp') w6 := happ0
        have f0 : w4.cell? ⟨m, 4, none⟩ = some (.slice ad M.ks.length cp) := f00
        have hml5 : m < w4.heap.size := hv5.tabR.2.2.2.2
        have HRp : Hid (Rp own W m a nb tp rb bb cap [] { M with ks := (constP r M.ks).2 } (constP r M.ks).1 (w6.setCell ⟨m, 4, none⟩ (.slice ad' (M.ks.length + 1) cp'))) := by
          show Rp _ _ _ _ _ _ _ _ _ _ _ _ _
          rw [HCQ.out]
          exact R6.drop
        clear R5 R6 hv5 hN5 hNf HCQ R4 happ0 f00
        generalize M.ks.length = kl at *
        go_wp2_with fail
        go_region_law (refine step_append_eq rfl (.tmp 83) (.tmp 87) 53 rfl _ _ _ _ (by simp [Act.eval, Act.put]) (by simp [Act.eval, Act.put]) happ ?_)
        all_goals
          go_wp2_with fail
          go_end0
          exact ⟨rfl, HRp.out⟩
      · have HCQ : Hid (constP r M.ks = ((takeP r2 l).1, M.ks ++ [str (takeP r2 l).2])) := HC3
        have hlen : (takeP r2 l).2.length = l := (take_ok hb HI.out).2.2.1
        have hconv : (convert 59 9 (.slice (some ⟨bb, k0, none⟩) l c)).run Tryz.prog w4.drew = .ok (.string ⟨(takeP r2 l).2.toArray⟩) w4.drew := by
          have h := run_convert_bytes_back (P := Tryz.prog) w4.drew 59 9 5 ⟨bb, k0, none⟩ c (takeP r2 l).2 Tryz.underlying59 Tryz.underlying5 Tryz.underlying9 (by
            intro j hj
            have hl : j < l := by omega
            have hk := hk (by omega)
            subst hk
            have := hR4.win (r := r2) (take_bs r2 l) hb HI.out hl
            rw [add_at]
            refine Eq.trans this ?_
            unfold byte
            rw [List.getElem?_eq_getElem hj]
            rfl)
          rw [hlen] at h
          exact h
        clear hb hR4 HC3 hk hlen
        have R5 := R4.drewN 1
        obtain ⟨own5, hv5, -, -, hN5, -⟩ := R5.vm
        obtain ⟨ad, cp, ad', cp', w6, f00, happ0, f1, f2, hNf, -⟩ := hv5.ksApp (by omega) (str (takeP r2 l).2)
        have R6 := hN5 _ _ (hNf 0).1
        have happ : (Builtin.append_ #[53, 53] 53 #[.slice ad M.ks.length cp, .slice (some ⟨w4.heap.size, 0, none⟩) 1 1]).run Tryz.prog ((w4.drew).alloc (.cells #[.int .i64 3, .int .u64 0, .string ⟨(takeP r2 l).2.toArray⟩] 33)) = .ok (.slice ad' (M.ks.length + 1) cp') w6 := happ0
        have f0 : w4.cell? ⟨m, 4, none⟩ = some (.slice ad M.ks.length cp) := f00
        have hml5 : m < w4.heap.size := hv5.tabR.2.2.2.2
        have HRp : Hid (Rp own W m a nb tp rb bb cap [] { M with ks := (constP r M.ks).2 } (constP r M.ks).1 (w6.setCell ⟨m, 4, none⟩ (.slice ad' (M.ks.length + 1) cp'))) := by
          show Rp _ _ _ _ _ _ _ _ _ _ _ _ _
          rw [HCQ.out]
          exact R6.drop
        clear R5 R6 hv5 hN5 hNf HCQ R4 happ0 f00
        generalize M.ks.length = kl at *
        generalize (takeP r2 l).2 = ss at *
        go_wp2_with fail
        go_region_law (refine step_append_eq rfl (.tmp 83) (.tmp 87) 53 rfl _ _ _ _ (by simp [Act.eval, Act.put]) (by simp [Act.eval, Act.put]) happ ?_)
        all_goals
          go_wp2_with fail
          go_end0
          exact ⟨rfl, HRp.out⟩
  · have HCQ : Hid (constP r M.ks = (r1.spoil, M.ks)) := by rw [HC.out]; exact (if_neg t1).trans (if_neg t2)
    have b1 : ((tag : Int) == 1) = false := by rw [beq_eq_false_iff_ne]; omega
    have b2 : ((tag : Int) == 2) = false := by rw [beq_eq_false_iff_ne]; omega
    clear HC
    go_enter Tryz.func81, Tryz.ntmps81
    go_wp2_with fail
    refine HU.mono ?_; rintro e w1 ⟨rfl, hR1, hS1⟩
    have R1 := R0.turn hS1 hR1
    obtain ⟨d0, d1, d2, dz⟩ := R1.rd.c
    have hlr := R1.rd.lt
    have HRp : Hid (Rp own W m a nb tp rb bb cap [] { M with ks := (constP r M.ks).2 } (constP r M.ks).1 (w1.setCell ⟨rb, 2, none⟩ (.bool true))) := by
      show Rp _ _ _ _ _ _ _ _ _ _ _ _ _
      rw [HCQ.out]
      exact R1.turn (Stp.setR _ _ _ _) R1.rd.spoilt
    clear R1 R0 HU hR1 hS1 d0 d1
    go_wp2_with fail
    go_end0
    exact ⟨rfl, HRp.out⟩
end Go.Proofs.Qxb6500293aGreatRR
