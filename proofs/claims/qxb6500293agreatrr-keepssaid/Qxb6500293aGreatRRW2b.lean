import Derived.Test.Qxb6500293aGreatRRW2
namespace Go.Proofs.Qxb6500293aGreatRR
open Go.RowKit
open Ieee (double)

theorem run_archFloor (x : Nat) (w : World) (h : x % 2 ^ 63 ≤ 2047 * 2 ^ 52) : (callFunc 129 #[.float .f64 x]).run Tryz.prog w = .ok (.value (.float .f64 (double.write ((double.read x).integral .down)))) w := by
  rw [run_callFunc_extern (fn := Tryz.f129) (e := Extern.MathFloor.toIntegral "math.archFloor" .down) Tryz.func129 (by kernel_rfl) (by kernel_rfl) (by kernel_rfl) (by kernel_rfl)]
  obtain ⟨q, ht⟩ : ∃ q : Question, Extern.MathFloor.toIntegral "math.archFloor" .down #[.float .f64 x] = (match double.read x with
    | .nan s t =>
      if FloatKind.f64.format.quiet t = t then pure (.float .f64 x) else do
      let kept ← choose q
      pure (.float .f64 (if kept == 1 then x else FloatKind.f64.encode (.nan s (FloatKind.f64.format.quiet t))))
    | d => pure (.float .f64 (FloatKind.f64.encode (d.integral .down)))) := ⟨_, rfl⟩
  have hn : ∀ s t, double.read x ≠ .nan s t := by
    intro s t
    rw [Fl.read_eq]
    by_cases c : x % 2 ^ 63 = 2047 * 2 ^ 52
    · rw [c, Fl.rd_inf]; simp
    · obtain ⟨m, e, h1, _⟩ := Fl.rd_V (x / 2 ^ 63 % 2 == 1) (x % 2 ^ 63) (by omega)
      rw [h1]; simp
  rw [ht]
  cases hd : double.read x with
  | nan s t => exact absurd hd (hn s t)
  | infinity s => rfl
  | number s m e => rfl
attribute [local go_sem] run_frombits run_tobits run_negf

set_option maxHeartbeats 400000 in
theorem abs_pos (x : Nat) (w : World) (hx : x < 9223372036854775808) :
    Calls Tryz.prog 139 #[.float .f64 x] w fun e w' => e = .returned (.float .f64 x) ∧ w' = w := by
  have e1 : bits .andNot .u64 (x : Int) 9223372036854775808 = (x : Int) := by
    rw [andNot_sign x (by omega), Nat.mod_eq_of_lt (by omega)]
  go_enter Tryz.func139, Tryz.ntmps139
  go_wp2
  go_ret
  exact ⟨rfl, rfl⟩

set_option maxHeartbeats 400000 in
theorem isInf_no (x : Nat) (w : World) (hx : x < 2047 * 2 ^ 52) :
    Calls Tryz.prog 134 #[.float .f64 x, .int .i64 0] w fun e w' => e = .returned (.bool false) ∧ w' = w := by
  have e1 : (FloatKind.f64.format.order x 9218868437227405311 == some .gt) = false := by
    rw [order_eq, Fl.order_pos (by omega) (by decide)]
    rw [beq_eq_false_iff_ne]
    intro h
    rcases Int.lt_trichotomy (x : Int) ((9218868437227405311 : Nat) : Int) with c | c | c
    · rw [Fl.cmp_lt c] at h; simp at h
    · rw [Fl.cmp_eq c] at h; simp at h
    · omega
  go_enter Tryz.func134, Tryz.ntmps134
  go_wp2_with (go_at_call 139; refine (abs_pos x _ (by omega)).mono ?_; rintro e w' ⟨rfl, rfl⟩)
  go_ret
  exact ⟨rfl, rfl⟩

set_option maxHeartbeats 400000 in
theorem isNaN_no (x : Nat) (w : World) (hx : x < 2047 * 2 ^ 52) :
    Calls Tryz.prog 133 #[.float .f64 x] w fun e w' => e = .returned (.bool false) ∧ w' = w := by
  have e1 := order_self x (by omega) (by omega)
  go_enter Tryz.func133, Tryz.ntmps133
  go_wp2
  go_ret
  exact ⟨rfl, rfl⟩

set_option maxHeartbeats 400000 in
theorem normalize_big (x : Nat) (w : World) (hx : x < 2047 * 2 ^ 52) (hx2 : 2 ^ 52 ≤ x) :
    Calls Tryz.prog 136 #[.float .f64 x] w fun e w' => e = .returned (.tuple #[.float .f64 x, .int .i64 0]) ∧ w' = w := by
  have e1 : (FloatKind.f64.format.order x 4503599627370496 == some .lt) = false := by
    rw [order_eq, Fl.order_pos (by omega) (by decide)]
    rw [beq_eq_false_iff_ne]
    intro h
    rcases Int.lt_trichotomy (x : Int) ((4503599627370496 : Nat) : Int) with c | c | c
    · omega
    · rw [Fl.cmp_eq c] at h; simp at h
    · rw [Fl.cmp_gt c] at h; simp at h
  go_enter Tryz.func136, Tryz.ntmps136
  go_wp2_with (go_at_call 139; refine (abs_pos x _ (by omega)).mono ?_; rintro e w' ⟨rfl, rfl⟩)
  go_ret2
  exact ⟨rfl, rfl⟩


set_option maxHeartbeats 400000 in
theorem copysign_zero (x : Nat) (w : World) (hx : x < 9223372036854775808) :
    Calls Tryz.prog 137 #[.float .f64 0, .float .f64 x] w fun e w' => e = .returned (.float .f64 0) ∧ w' = w := by
  have q3 : bits .andNot .u64 0 9223372036854775808 = 0 := by decide +kernel
  have q4 : bits .and .u64 (x : Int) 9223372036854775808 = 0 := by
    rw [and_sign x (by omega), Nat.div_eq_of_lt (by omega)]; rfl
  have q5 : bits .or .u64 0 0 = 0 := by decide +kernel
  go_enter Tryz.func137, Tryz.ntmps137
  go_wp2
  go_ret
  exact ⟨rfl, rfl⟩

set_option maxHeartbeats 400000 in
theorem inf_one (w : World) :
    Calls Tryz.prog 138 #[.int .i64 1] w fun e w' => e = .returned (.float .f64 9218868437227405312) ∧ w' = w := by
  go_enter Tryz.func138, Tryz.ntmps138
  go_wp2
  go_ret
  exact ⟨rfl, rfl⟩

set_option maxHeartbeats 800000 in
theorem ldexp_tiny (x E fr : Nat) (e : Int) (w : World) (hx : x = (E + 1023) * 2 ^ 52 + fr) (hf : fr < 2 ^ 52) (hE : E ≤ 53) (h1 : -10000 ≤ e) (h2 : e + E < -1075) :
    Calls Tryz.prog 132 #[.float .f64 x, .int .i64 e] w fun e w' => e = .returned (.float .f64 0) ∧ w' = w := by
  have x1 : 2 ^ 52 ≤ x := by omega
  have x2 : x < 2047 * 2 ^ 52 := by omega
  have q1 := order_ne_zero x (by omega) x2
  have q2 := exp_of x E fr hx hf hE
  clear hx
  go_enter Tryz.func132, Tryz.ntmps132
  go_wp2_with (first | (go_at_call 134; refine (isInf_no x _ x2).mono ?_; rintro e w' ⟨rfl, rfl⟩) | (go_at_call 133; refine (isNaN_no x _ x2).mono ?_; rintro e w' ⟨rfl, rfl⟩) | (go_at_call 136; refine (normalize_big x _ x2 x1).mono ?_; rintro e w' ⟨rfl, rfl⟩) | (go_at_call 137; refine (copysign_zero x _ (by omega)).mono ?_; rintro e w' ⟨rfl, rfl⟩))
  go_ret
  exact ⟨rfl, rfl⟩

set_option maxHeartbeats 800000 in
theorem ldexp_inf (x E fr : Nat) (e : Int) (w : World) (hx : x = (E + 1023) * 2 ^ 52 + fr) (hf : fr < 2 ^ 52) (hE : E ≤ 53) (h1 : e ≤ 10000) (h2 : 1023 < e + E) :
    Calls Tryz.prog 132 #[.float .f64 x, .int .i64 e] w fun e w' => e = .returned (.float .f64 9218868437227405312) ∧ w' = w := by
  have x1 : 2 ^ 52 ≤ x := by omega
  have x2 : x < 2047 * 2 ^ 52 := by omega
  have q1 := order_ne_zero x (by omega) x2
  have q6 := order_not_neg x (by omega) x2
  have q2 := exp_of x E fr hx hf hE
  clear hx
  go_enter Tryz.func132, Tryz.ntmps132
  go_wp2_with (first | (go_at_call 134; refine (isInf_no x _ x2).mono ?_; rintro e w' ⟨rfl, rfl⟩) | (go_at_call 133; refine (isNaN_no x _ x2).mono ?_; rintro e w' ⟨rfl, rfl⟩) | (go_at_call 136; refine (normalize_big x _ x2 x1).mono ?_; rintro e w' ⟨rfl, rfl⟩) | (go_at_call 138; refine (inf_one _).mono ?_; rintro e w' ⟨rfl, rfl⟩))
  go_ret
  exact ⟨rfl, rfl⟩

set_option maxHeartbeats 800000 in
theorem ldexp_normal (x E fr K m : Nat) (e : Int) (w : World) (hx : x = (E + 1023) * 2 ^ 52 + fr) (hf : fr < 2 ^ 52) (hE : E ≤ 53) (hs : Fl.Same (2 ^ 52 + fr) ((E : Int) - 52) m 0) (h1 : -1022 ≤ e + E) (h2 : e + E ≤ 1023) (hK : e + E = (K : Int) - 1023) :
    Calls Tryz.prog 132 #[.float .f64 x, .int .i64 e] w fun e' w' => e' = .returned (.float .f64 (double.nearest false m e)) ∧ w' = w := by
  have x1 : 2 ^ 52 ≤ x := by omega
  have x2 : x < 2047 * 2 ^ 52 := by omega
  have q1 := order_ne_zero x (by omega) x2
  have q2 := exp_of x E fr hx hf hE
  have q3 : bits .andNot .u64 (x : Int) 9218868437227405312 = (fr : Int) := by
    rw [andNot_exp x (by omega)]; omega
  have q4 := or_exp K fr hf (by omega)
  have q5 := fun w => run_float_arith (P := Tryz.prog) w .mul 141 .f64 4607182418800017408 (K * 2 ^ 52 + fr) _ (Fl.ld_normal hf hs (show (K : Int) = e + E + 1023 by omega) (by omega) (by omega))
  clear hx
  go_enter Tryz.func132, Tryz.ntmps132
  go_wp2_with (first | (go_at_call 134; refine (isInf_no x _ x2).mono ?_; rintro e w' ⟨rfl, rfl⟩) | (go_at_call 133; refine (isNaN_no x _ x2).mono ?_; rintro e w' ⟨rfl, rfl⟩) | (go_at_call 136; refine (normalize_big x _ x2 x1).mono ?_; rintro e w' ⟨rfl, rfl⟩) | (go_at_call 138; refine (inf_one _).mono ?_; rintro e w' ⟨rfl, rfl⟩))
  go_ret
  exact ⟨rfl, rfl⟩

set_option maxHeartbeats 800000 in
theorem ldexp_subnormal (x E fr K m : Nat) (e : Int) (w : World) (hx : x = (E + 1023) * 2 ^ 52 + fr) (hf : fr < 2 ^ 52) (hE : E ≤ 53) (hs : Fl.Same (2 ^ 52 + fr) ((E : Int) - 52) m 0) (h1 : -1075 ≤ e + E) (h2 : e + E < -1022) (hK : e + E = (K : Int) - 1076) :
    Calls Tryz.prog 132 #[.float .f64 x, .int .i64 e] w fun e' w' => e' = .returned (.float .f64 (double.nearest false m e)) ∧ w' = w := by
  have x1 : 2 ^ 52 ≤ x := by omega
  have x2 : x < 2047 * 2 ^ 52 := by omega
  have q1 := order_ne_zero x (by omega) x2
  have q2 := exp_of x E fr hx hf hE
  have q3 : bits .andNot .u64 (x : Int) 9218868437227405312 = (fr : Int) := by
    rw [andNot_exp x (by omega)]; omega
  have q4 := or_exp K fr hf (by omega)
  have q5 := fun w => run_float_arith (P := Tryz.prog) w .mul 141 .f64 4368491638549381120 (K * 2 ^ 52 + fr) _ (Fl.ld_subnormal hf hs (show (K : Int) = e + E + 53 + 1023 by omega) (by omega) (by omega))
  have q6 : (K : Int) - 1076 + 53 + 1023 = K := by omega
  clear hx
  go_enter Tryz.func132, Tryz.ntmps132
  go_wp2_with (first | (go_at_call 134; refine (isInf_no x _ x2).mono ?_; rintro e w' ⟨rfl, rfl⟩) | (go_at_call 133; refine (isNaN_no x _ x2).mono ?_; rintro e w' ⟨rfl, rfl⟩) | (go_at_call 136; refine (normalize_big x _ x2 x1).mono ?_; rintro e w' ⟨rfl, rfl⟩) | (go_at_call 138; refine (inf_one _).mono ?_; rintro e w' ⟨rfl, rfl⟩))
  go_ret
  exact ⟨rfl, rfl⟩

set_option maxHeartbeats 400000 in
theorem ldexp_zero (e : Int) (w : World) :
    Calls Tryz.prog 132 #[.float .f64 0, .int .i64 e] w fun e' w' => e' = .returned (.float .f64 0) ∧ w' = w := by
  have q1 : FloatKind.f64.format.order 0 0 = some .eq := by decide +kernel
  go_enter Tryz.func132, Tryz.ntmps132
  go_wp2
  go_ret
  exact ⟨rfl, rfl⟩

/-- math.ldexp of a whole number: rounded once. -/
theorem ldexp_any (m : Nat) (e : Int) (w : World) (hm : m ≤ 2 ^ 53) (h1 : -10000 ≤ e) (h2 : e ≤ 10000) :
    Calls Tryz.prog 132 #[.float .f64 (double.nearest false m 0), .int .i64 e] w fun e' w' => e' = .returned (.float .f64 (double.nearest false m e)) ∧ w' = w := by
  by_cases h0 : m = 0
  · subst h0
    rw [Fl.nearest_zero, Fl.nearest_zero, Fl.word_false]
    exact ldexp_zero e w
  · obtain ⟨E, fr, hx, hf, hE, hL, hs⟩ := Fl.ld_parts m h0 hm
    by_cases c1 : e + E < -1075
    · rw [Fl.nearest_tiny false m e h0 (by omega), Fl.word_false]
      exact ldexp_tiny _ E fr e w hx hf hE h1 c1
    · by_cases c2 : 1023 < e + E
      · rw [Fl.nearest_inf false m e h0 (by omega), Fl.word_false]
        exact ldexp_inf _ E fr e w hx hf hE h2 c2
      · by_cases c3 : e + E < -1022
        · exact ldexp_subnormal _ E fr (e + E + 1076).toNat m e w hx hf hE hs (by omega) c3 (by omega)
        · exact ldexp_normal _ E fr (e + E + 1023).toNat m e w hx hf hE hs (by omega) (by omega) (by omega)

set_option maxHeartbeats 400000 in
/-- math.Ldexp of a whole number. -/
theorem Ldexp_any (m : Nat) (e : Int) (w : World) (hm : m ≤ 2 ^ 53) (h1 : -10000 ≤ e) (h2 : e ≤ 10000) :
    Calls Tryz.prog 128 #[.float .f64 (double.nearest false m 0), .int .i64 e] w fun e' w' => e' = .returned (.float .f64 (double.nearest false m e)) ∧ w' = w := by
  go_enter Tryz.func128, Tryz.ntmps128
  go_wp2_with (go_at_call 132; refine (ldexp_any m e _ hm h1 h2).mono ?_; rintro e w' ⟨rfl, rfl⟩)
  go_ret
  exact ⟨rfl, rfl⟩

set_option maxHeartbeats 400000 in
theorem floor_any (x : Nat) (w : World) (h : x % 2 ^ 63 ≤ 2047 * 2 ^ 52) :
    Calls Tryz.prog 124 #[.float .f64 x] w fun e' w' => e' = .returned (.float .f64 (double.write ((double.read x).integral .down))) ∧ w' = w := by
  have q := fun w => run_archFloor x w h
  go_enter Tryz.func124, Tryz.ntmps124
  go_wp2
  go_ret
  exact ⟨rfl, rfl⟩

set_option maxHeartbeats 400000 in
theorem run_any (l : List UInt8) (i m : Nat) (w : World) (hl : l.length ≤ 9223372036854775807) (hm : m < 18446744073709551616) (hi : i ≤ l.length) :
    Calls Tryz.prog 127 #[.string ⟨l.toArray⟩, .int .i64 i, .int .u64 m] w fun e w' => e = .returned (.tuple #[.int .u64 ((val m (digs (l.drop i)) % 18446744073709551616 : Nat) : Int), .int .i64 ((digs (l.drop i)).length : Int), .int .i64 ((i + (digs (l.drop i)).length : Nat) : Int)]) ∧ w' = w := by
  go_enter Tryz.func127, Tryz.ntmps127
  go_wp2
  go_loop [1,2,9] (fun i2 m2 n2 => ∃ k q : Nat, i2 = .int .i64 ((i + k : Nat) : Int) ∧ n2 = .int .i64 (k : Int) ∧ m2 = .int .u64 (q : Int) ∧ q < 18446744073709551616 ∧ i + k ≤ l.length ∧ Hid (q = val m ((l.drop i).take k) % 18446744073709551616 ∧ ∀ c ∈ (l.drop i).take k, isDigit c = true)) (fun i2 _ _ => l.length - (intOf i2).toNat)
  case atStart => exact ⟨0, m, by simp, rfl, rfl, hm, hi, by simp [val, Nat.mod_eq_of_lt hm], by simp⟩
  case round =>
    obtain ⟨k, q, rfl, rfl, rfl, hq, hik, HQ⟩ := hrel
    by_cases hlt : i + k < l.length
    · have hc : ({ data := l.toArray } : ByteArray)[i + k] = l[i + k] := rfl
      have hdr : (l.drop i).drop k = l[i + k] :: l.drop (i + k + 1) := by rw [List.drop_drop]; exact List.drop_eq_getElem_cons hlt
      have htk : (l.drop i).take (k + 1) = (l.drop i).take k ++ [l[i + k]] := by
        rw [List.take_succ_eq_append_getElem (by simp; omega)]; simp
      have HC : Hid (({ data := l.toArray } : ByteArray)[i + k] = l[i + k] ∧ (l.drop i).drop k = l[i + k] :: l.drop (i + k + 1) ∧ (l.drop i).take (k + 1) = (l.drop i).take k ++ [l[i + k]]) := ⟨hc, hdr, htk⟩
      clear hc hdr htk
      by_cases hd : isDigit l[i + k] = true
      · have h48 : 48 ≤ (({ data := l.toArray } : ByteArray)[i + k].toNat : Int) := by
          rw [HC.out.1]; simp [isDigit] at hd; omega
        have h57 : (({ data := l.toArray } : ByteArray)[i + k].toNat : Int) ≤ 57 := by
          rw [HC.out.1]; simp [isDigit] at hd; omega
        have HD : Hid (isDigit l[i + k] = true) := hd
        clear hd
        go_wp2
        go_round
        case rel =>
          obtain ⟨hc, hdr, htk⟩ := HC.out
          obtain ⟨hq1, hq2⟩ := HQ.out
          rw [hc] at h48 h57 ⊢
          refine ⟨k + 1, (q * 10 + (l[i + k].toNat - 48)) % 18446744073709551616, by go_num, by go_num, ?_, by omega, by omega, ?_, ?_⟩
          · congr 1
            simp only [IntKind.wrap_u64]
            omega
          · rw [htk, val_snoc]; omega
          · rw [htk]
            intro c hc'
            rcases List.mem_append.1 hc' with h | h
            · exact hq2 c h
            · rw [List.mem_singleton.1 h]; exact HD.out
        case measure => simp [intOf]; omega
      · have hfin : digs (l.drop i) = (l.drop i).take k := digs_eq HQ.out.2 (.inr ⟨_, _, HC.out.2.1, by simpa using hd⟩)
        have hlen : ((l.drop i).take k).length = k := by simp; omega
        have hnd : (({ data := l.toArray } : ByteArray)[i + k].toNat : Int) < 48 ∨ 57 < (({ data := l.toArray } : ByteArray)[i + k].toNat : Int) := by
          rw [HC.out.1]
          simp [isDigit] at hd; omega
        have HF := HQ.out.1
        rw [← hfin] at HF hlen
        have HF2 : Hid (q = val m (digs (l.drop i)) % 18446744073709551616 ∧ (digs (l.drop i)).length = k) := ⟨HF, hlen⟩
        clear HF hlen hfin hd HQ HC
        rcases hnd with hnd | hnd
        all_goals
          go_wp2
          go_ret3
          exact ⟨ret3 (by have := HF2.out.1; omega) (by have := HF2.out.2; omega) (by have := HF2.out.2; omega), rfl⟩
    · have hfin : digs (l.drop i) = (l.drop i).take k := digs_eq HQ.out.2 (.inl (by simp; omega))
      have hlen : ((l.drop i).take k).length = k := by simp; omega
      have HF := HQ.out.1
      rw [← hfin] at HF hlen
      have HF2 : Hid (q = val m (digs (l.drop i)) % 18446744073709551616 ∧ (digs (l.drop i)).length = k) := ⟨HF, hlen⟩
      clear HF hlen hfin HQ
      go_wp2
      go_ret3
      exact ⟨ret3 (by have := HF2.out.1; omega) (by have := HF2.out.2; omega) (by have := HF2.out.2; omega), rfl⟩

theorem run_at (t : List UInt8) (i : Int) (I m : Nat) (w : World) (hi : i = (I : Int)) (hl : t.length ≤ 24) (hm : m < 18446744073709551616) (hI : I ≤ t.length) :
    Calls Tryz.prog 127 #[.string ⟨t.toArray⟩, .int .i64 i, .int .u64 m] w fun e w' => e = .returned (.tuple #[.int .u64 (nm t I m : Int), .int .i64 (dg t I : Int), .int .i64 ((I + dg t I : Nat) : Int)]) ∧ w' = w := by
  subst hi
  exact run_any t I m w (by omega) hm hI

set_option maxHeartbeats 400000 in
theorem lay_any (b : Nat) (bs : List UInt8) (i u : Nat) (w : World) (hu : u < 18446744073709551616) (hb : BB 5 b bs w) (hlen : bs.length = 24) (hi : i + nd u ≤ 24) :
    Calls Tryz.prog 126 #[.slice (some ⟨b, 0, none⟩) 24 24, .int .i64 i, .int .u64 u] w fun e w' => e = .returned (.int .i64 ((i + nd u : Nat) : Int)) ∧ BB 5 b (put bs i (dec u)) w' ∧ Stp b w w' := by
  go_enter Tryz.func126, Tryz.ntmps126
  go_wp2
  go_loop [7] (fun p => ∃ k : Nat, p = .int .u64 (k : Int) ∧ 1 ≤ k ∧ (∃ j, k = 10 ^ j) ∧ (k = 1 ∨ k ≤ u)) (fun p => u - (intOf p).toNat)
  case atStart => exact ⟨1, rfl, by omega, ⟨0, rfl⟩, .inl rfl⟩
  case round =>
    obtain ⟨k, rfl, h1, hj, hk⟩ := hrel
    have HJ : Hid (∃ j, k = 10 ^ j) := hj
    clear hj
    have hd : (u : Int) / (k : Int) ≤ u := Int.ediv_le_self _ (by omega)
    have hd0 : 0 ≤ (u : Int) / (k : Int) := Int.ediv_nonneg (by omega) (by omega)
    by_cases hlt : 10 ≤ (u : Int) / (k : Int)
    · have hk10 : (k : Int) * 10 ≤ u := by 
        have := Int.mul_le_of_le_ediv (c := (k : Int)) (by omega) hlt
        omega
      go_wp2
      go_round
      case rel => exact ⟨k * 10, by go_num, by omega, by obtain ⟨j, rfl⟩ := HJ.out; exact ⟨j + 1, by rw [Nat.pow_succ]⟩, by omega⟩
      case measure => simp [intOf]; omega
    · have HN : ∃ j, k = 10 ^ j ∧ nd u = j + 1 ∧ u < 10 ^ (j + 1) := by
        obtain ⟨j, hj⟩ := HJ.out
        have h3 : u < k * 10 := by
          have : u / k < 10 := by
            have e : ((u / k : Nat) : Int) = (u : Int) / (k : Int) := Int.natCast_ediv u k
            omega
          rw [Nat.mul_comm]
          exact (Nat.div_lt_iff_lt_mul (by omega)).1 this
        have h4 : u < 10 ^ (j + 1) := by rw [Nat.pow_succ, ← hj]; exact h3
        refine ⟨j, hj, nd_eq hu h4 ?_, h4⟩
        rcases hk with hk | hk
        · left
          rcases Nat.eq_zero_or_pos j with h | h
          · exact h
          · have : 10 ^ 1 ≤ 10 ^ j := Nat.pow_le_pow_right (by omega) h
            omega
        · right; omega
      have HN' : Hid (∃ j, k = 10 ^ j ∧ nd u = j + 1 ∧ u < 10 ^ (j + 1)) := HN
      clear HN HJ
      go_wp2
      go_loopw [1,2,7] (fun i2 u2 p w2 => ∃ (t v q : Nat) (pre : List UInt8), i2 = .int .i64 ((i + t : Nat) : Int) ∧ u2 = .int .u64 (v : Int) ∧ p = .int .u64 (q : Int) ∧ pre.length = t ∧ t ≤ nd u ∧ v ≤ u ∧ q ≤ k ∧ Hid (∃ r, t + r = nd u ∧ v < 10 ^ r ∧ dec u = pre ++ fx r v ∧ (match r with | 0 => q = 0 | r + 1 => q = 10 ^ r)) ∧ BB 5 b (put bs i pre) w2 ∧ Stp b w w2) (fun _ _ p _ => (intOf p).toNat)
      case atStart => 
        obtain ⟨j, h2, h3, h4⟩ := HN'.out
        exact ⟨0, u, k, [], by simp, rfl, rfl, rfl, by omega, by omega, by omega, ⟨j + 1, by omega, h4, by unfold dec; rw [h3]; simp, h2⟩, by rw [put_nil]; exact hb, Stp.refl _ _⟩
      case round =>
        obtain ⟨t, v, q, pre, rfl, rfl, rfl, hpl, htn, hvu, hqk, HR, hbb, hst⟩ := hrel
        have hku : k ≤ u ∨ k = 1 := by omega
        rcases Nat.eq_zero_or_pos q with hq | hq
        · subst hq
          have hfin : t = nd u ∧ pre = dec u := by
            obtain ⟨r, hr1, hr2, hr3, hr4⟩ := HR.out
            cases r with
            | zero => exact ⟨by omega, by simpa [fx] using hr3.symm⟩
            | succ r => simp only at hr4; have := Nat.pow_pos (n := r) (show 0 < 10 by omega); omega
          have HF : Hid (t = nd u ∧ pre = dec u) := hfin
          clear hfin HR
          go_wp2
          go_ret
          obtain ⟨e1, e2⟩ := HF.out
          exact ⟨ret_int (by rw [e1]), by rw [← e2]; exact hbb, hst⟩
        · have HR2 : ∃ r, t + (r + 1) = nd u ∧ v < 10 ^ (r + 1) ∧ dec u = pre ++ fx (r + 1) v ∧ q = 10 ^ r := by
            obtain ⟨r, hr1, hr2, hr3, hr4⟩ := HR.out
            cases r with
            | zero => simp only at hr4; omega
            | succ r => exact ⟨r, hr1, hr2, hr3, hr4⟩
          have hti : i + t < 24 := by obtain ⟨r, hr, _⟩ := HR2; omega
          have hvq : v / q < 10 := by
            obtain ⟨r, _, hr2, _, hr4⟩ := HR2
            rw [Nat.div_lt_iff_lt_mul hq, Nat.mul_comm, hr4, ← Nat.pow_succ]; exact hr2
          have hvm : v % q < q := Nat.mod_lt _ hq
          have hvl : v % q ≤ v := Nat.mod_le _ _
          have HN3 : Hid (∃ r, t + (r + 1) = nd u ∧ v < 10 ^ (r + 1) ∧ dec u = pre ++ fx (r + 1) v ∧ q = 10 ^ r) := HR2
          clear HR HR2
          have hq1 : (v : Int) / (q : Int) < 10 := by
            have e : ((v / q : Nat) : Int) = (v : Int) / (q : Int) := Int.natCast_ediv v q
            omega
          have hq0 : 0 ≤ (v : Int) / (q : Int) := Int.ediv_nonneg (by omega) (by omega)
          have hm0 : 0 ≤ (v : Int) % (q : Int) := Int.emod_nonneg _ (by omega)
          have hm1 : (v : Int) % (q : Int) ≤ v := by
            have e : ((v % q : Nat) : Int) = (v : Int) % (q : Int) := Int.natCast_emod v q
            omega
          have hcell := hbb.cell (i := i + t) (by rw [put_length (by omega)]; omega)
          have hfr := hbb.frozen (i + t)
          go_wp2
          go_roundw
          case rel =>
            obtain ⟨r, hr1, hr2, hr3, hr4⟩ := HN3.out
            have e1 : ((v / q : Nat) : Int) = (v : Int) / (q : Int) := Int.natCast_ediv v q
            have e2 : ((v % q : Nat) : Int) = (v : Int) % (q : Int) := Int.natCast_emod v q
            refine ⟨t + 1, v % q, q / 10, pre ++ [UInt8.ofNat (48 + v / q)], ?_, ?_, ?_, ?_, ?_, ?_, ?_, ?_, ?_, ?_⟩
            · rw [show ((i + (t + 1) : Nat) : Int) = ↑i + ↑t + 1 from by omega]
            · rw [e2]
            · rw [show ((q / 10 : Nat) : Int) = ↑q / 10 from by omega]
            · simp [hpl]
            · omega
            · omega
            · omega
            · refine ⟨r, by omega, ?_, ?_, ?_⟩
              · rw [← hr4]; exact hvm
              · rw [hr3, fx_succ, ← hr4]; simp
              · cases r with
                | zero => simp only; rw [hr4]
                | succ r => simp only; rw [hr4, Nat.pow_succ, Nat.mul_div_cancel _ (by omega)]
            · rw [put_snoc _ (by omega), hpl]
              have := hbb.set (i + t) (n := 48 + (v : Int) / (q : Int)) (by omega) (by omega)
              rw [show (48 + (v : Int) / (q : Int)).toNat = 48 + v / q from by omega] at this
              exact this
            · exact hst.setCell (.inl rfl) _
          case measure => simp [intOf]; omega
/-- The same, its numbers as they come. -/
theorem lay_int (b : Nat) (bs : List UInt8) (i u : Int) (I U : Nat) (w : World) (hi : i = (I : Int)) (hu : u = (U : Int)) (hU : U < 18446744073709551616) (hb : BB 5 b bs w) (hlen : bs.length = 24) (hI : I + nd U ≤ 24) :
    Calls Tryz.prog 126 #[.slice (some ⟨b, 0, none⟩) 24 24, .int .i64 i, .int .u64 u] w fun e w' => e = .returned (.int .i64 ((I + nd U : Nat) : Int)) ∧ BB 5 b (put bs I (dec U)) w' ∧ Stp b w w' := by
  subst hi; subst hu
  exact lay_any b bs I U w hU hb hlen hI

end Go.Proofs.Qxb6500293aGreatRR
