import Derived.Test.Qxb6500293aGreatRRW2b
namespace Go.Proofs.Qxb6500293aGreatRR
open Go.RowKit
open Ieee (double)
attribute [local go_sem] run_frombits run_tobits run_negf

/-- What num.magnitude answers. -/
def MagEnd (t : List UInt8) (w : World) (e : Ending) (w' : World) : Prop := ∃ f, e = .returned (.tuple #[.float .f64 f, .bool (magP t).isSome]) ∧ (∀ v, magP t = some v → f = v) ∧ w' = w
theorem magEnd_none {t : List UInt8} {w : World} {f : Nat} (h : magP t = none) : MagEnd t w (.returned (.tuple #[.float .f64 f, .bool false])) w := by
  refine ⟨f, ?_, ?_, rfl⟩
  · rw [h]; rfl
  · intro v hv; rw [h] at hv; cases hv
theorem magEnd_some {t : List UInt8} {w : World} {f : Nat} (h : magP t = some f) : MagEnd t w (.returned (.tuple #[.float .f64 f, .bool true])) w := by
  refine ⟨f, ?_, ?_, rfl⟩
  · rw [h]; rfl
  · intro v hv; rw [h] at hv; cases hv; rfl
theorem magEnd_mk {t : List UInt8} {w : World} {f : Nat} {b : Bool} (hb : b = (magP t).isSome) (hf : ∀ v, magP t = some v → f = v) : MagEnd t w (.returned (.tuple #[.float .f64 f, .bool b])) w := ⟨f, by rw [hb], hf, rfl⟩
theorem fofnat (m : Nat) : floatOfInt .f64 (m : Int) = double.nearest false m 0 := by
  rw [floatOfInt_eq, decide_eq_false (by omega), Int.natAbs_natCast]


theorem str_at {t : List UInt8} {i : Nat} (h : i < t.length) : ({ data := t.toArray } : ByteArray)[i] = t[i] := rfl

set_option maxHeartbeats 1600000 in
theorem magnitude_any (t : List UInt8) (w : World) (hl : t.length ≤ 24) : Calls Tryz.prog 123 #[.string ⟨t.toArray⟩] w (MagEnd t w) := by
  by_cases h1 : t = [105, 110, 102]
  · have HP : Hid (magP t = some 9218868437227405312) := by show _ = _; unfold magP; rw [if_pos h1]
    have e1 : (t == [105, 110, 102]) = true := by simp [h1]
    clear h1
    go_enter Tryz.func123, Tryz.ntmps123
    go_wp2
    go_ret2
    refine magEnd_mk (by rw [HP.out]; rfl) (fun v hv => ?_)
    rw [HP.out] at hv
    exact Option.some.inj hv
  have e1 : (t == [105, 110, 102]) = false := by simpa using h1
  have hrun := fun w => run_at t 0 0 0 w rfl hl (by omega) (by omega)
  have hd0 : dg t 0 ≤ t.length := by have := dg_le t 0; omega
  have hn0 := nm_lt t 0 0
  rw [Nat.zero_add] at hrun
  by_cases h2 : dg t 0 = 0 ∨ 16 < dg t 0
  · have HP : Hid (magP t = none) := by show _ = _; unfold magP; rw [if_neg h1, if_pos h2]
    clear h1
    rcases h2 with h2 | h2
    all_goals
      go_enter Tryz.func123, Tryz.ntmps123
      go_wp2_with (go_at_call 127; refine (hrun _).mono ?_; rintro e w' ⟨rfl, rfl⟩)
      go_ret2
      exact magEnd_none HP.out
  have h3 : 1 ≤ dg t 0 := by omega
  have h4 : dg t 0 ≤ 16 := by omega
  have e2 : ((dg t 0 : Int) == 0) = false := by rw [beq_eq_false_iff_ne]; omega
  by_cases h5 : dg t 0 = t.length
  · have HP : Hid (magP t = if nm t 0 0 ≤ 2 ^ 53 then some (double.nearest false (nm t 0 0) 0) else none) := by show _ = _; unfold magP; rw [if_neg h1, if_neg h2, if_pos h5]
    have H5 : Hid (dg t 0 = t.length) := h5
    have e3 : ((dg t 0 : Int) == (t.length : Int)) = true := by rw [beq_iff_eq]; omega
    have hf := fofnat (nm t 0 0)
    clear h1 h5 h2
    generalize nm t 0 0 = m at *
    generalize dg t 0 = d at *
    by_cases h6 : m ≤ 9007199254740992
    · go_enter Tryz.func123, Tryz.ntmps123
      go_wp2_with (go_at_call 127; refine (hrun _).mono ?_; rintro e w' ⟨rfl, rfl⟩)
      go_ret2
      exact magEnd_mk (by rw [HP.out, if_pos (by omega)]; simp; omega) (fun v hv => by rw [HP.out, if_pos (by omega)] at hv; exact Option.some.inj hv)
    · go_enter Tryz.func123, Tryz.ntmps123
      go_wp2_with (go_at_call 127; refine (hrun _).mono ?_; rintro e w' ⟨rfl, rfl⟩)
      go_ret2
      exact magEnd_mk (by rw [HP.out, if_neg (by omega)]; simp; omega) (fun v hv => by rw [HP.out, if_neg (by omega)] at hv; cases hv)
  have h5' : dg t 0 < t.length := by omega
  have e3 : ((dg t 0 : Int) == (t.length : Int)) = false := by rw [beq_eq_false_iff_ne]; omega
  have hget : t[dg t 0]? = some t[dg t 0] := List.getElem?_eq_getElem h5'
  have hat := str_at h5'
  by_cases h6 : t[dg t 0] = 46
  · have hP := magP_dot h1 h2 h5 (by rw [hget, h6])
    have hrun2 := fun w => run_at t ((dg t 0 : Int) + 1) (dg t 0 + 1) (nm t 0 0) w (by omega) hl hn0 (by omega)
    have hd1 : dg t (dg t 0 + 1) ≤ t.length := by have := dg_le t (dg t 0 + 1); omega
    have hn1 := nm_lt t (dg t 0 + 1) (nm t 0 0)
    have hat2 : (({ data := t.toArray } : ByteArray)[dg t 0].toNat : Int) = 46 := by rw [hat, h6]; rfl
    generalize hA : nm t (dg t 0 + 1) (nm t 0 0) = A at *
    generalize hK : dg t (dg t 0 + 1) = K at *
    clear hget hat h1 h2 h5 hA hK
    have HP : Hid (magP t = _) := hP
    clear hP h6
    generalize nm t 0 0 = m at *
    generalize dg t 0 = d at *
    by_cases c1 : K = 0 ∨ d + 1 + K ≠ t.length ∨ 16 < d + K ∨ 2 ^ 53 < A
    · have HP2 : Hid (magP t = none) := by show _ = _; rw [HP.out, if_pos c1]
      clear HP
      have c2 : (K = 0) ∨ (((K : Int) == 0) = false ∧ ((d : Int) + 1 + (K : Int) != (t.length : Int)) = true) ∨ (((K : Int) == 0) = false ∧ ((d : Int) + 1 + (K : Int) != (t.length : Int)) = false ∧ 16 < d + K) ∨ (((K : Int) == 0) = false ∧ ((d : Int) + 1 + (K : Int) != (t.length : Int)) = false ∧ d + K ≤ 16 ∧ 9007199254740992 < A) := by
        simp only [beq_eq_false_iff_ne, bne_iff_ne, bne_eq_false_iff_eq]
        omega
      clear c1
      rcases c2 with c2 | ⟨c2, c3⟩ | ⟨c2, c3, c4⟩ | ⟨c2, c3, c4, c5⟩
      all_goals
        go_enter Tryz.func123, Tryz.ntmps123
        go_wp2_with fail
        refine (hrun _).mono ?_
        rintro e w' ⟨rfl, rfl⟩
        go_wp2_with fail
        refine (hrun2 _).mono ?_
        rintro e w' ⟨rfl, rfl⟩
        go_wp2
        go_ret2
        exact magEnd_mk (by rw [HP2.out]; rfl) (fun v hv => by rw [HP2.out] at hv; cases hv)
    · have hm1 : K ≠ 0 ∧ d + 1 + K = t.length ∧ d + K ≤ 16 ∧ A ≤ 9007199254740992 := by
        refine ⟨?_, ?_, ?_, ?_⟩
        · intro h; exact c1 (.inl h)
        · by_cases c : d + 1 + K = t.length
          · exact c
          · exact absurd (.inr (.inl c)) c1
        · by_cases c : d + K ≤ 16
          · exact c
          · exact absurd (.inr (.inr (.inl (by omega)))) c1
        · by_cases c : A ≤ 9007199254740992
          · exact c
          · exact absurd (.inr (.inr (.inr (by omega)))) c1
      obtain ⟨g1, g2, g3, g4⟩ := hm1
      have hT : 10 ^ K ≤ 10 ^ 15 := Nat.pow_le_pow_right (by omega) (by omega)
      have hT0 : 0 < 10 ^ K := Nat.pow_pos (by omega)
      obtain ⟨q, hq, hq2⟩ := Fl.div_some A (10 ^ K) (by omega) (by omega) (by omega)
      have HP2 : Hid (magP t = some q) := by
        show _ = _; rw [HP.out, if_neg c1, hq]
      have G2 : Hid (d + 1 + K = t.length) := g2
      have b1 : ((K : Int) == 0) = false := by rw [beq_eq_false_iff_ne]; omega
      have b2 : ((d : Int) + 1 + (K : Int) != (t.length : Int)) = false := by simp; omega
      have hfa := fofnat A
      have hfb := fofnat (10 ^ K)
      obtain ⟨T, hT1⟩ : ∃ T, T = 10 ^ K := ⟨_, rfl⟩
      have hdiv := fun w => run_float_arith (P := Tryz.prog) w .quo 141 .f64 (double.nearest false A 0) (double.nearest false (10 ^ K) 0) q hq
      rw [← hT1] at hfb hdiv
      have HT : Hid (T = 10 ^ K) := hT1
      clear HP c1 g2 hq hT hT0 hT1
      go_enter Tryz.func123, Tryz.ntmps123
      go_wp2_with fail
      refine (hrun _).mono ?_
      rintro e w' ⟨rfl, rfl⟩
      go_wp2_with fail
      refine (hrun2 _).mono ?_
      rintro e w' ⟨rfl, rfl⟩
      go_wp2
      go_loop [8, 10] (fun kk tt => ∃ c x : Nat, kk = .int .i64 ((K - c : Nat) : Int) ∧ tt = .int .u64 (x : Int) ∧ c ≤ K ∧ x ≤ 1000000000000000 ∧ Hid (x = 10 ^ c)) (fun kk _ => (intOf kk).toNat)
      case atStart => exact ⟨0, 1, rfl, rfl, by omega, by omega, rfl⟩
      case round =>
        obtain ⟨c, x, rfl, rfl, hc, hx, HX⟩ := hrel
        by_cases hcK : c = K
        · have hxT : x = T := by rw [HX.out, hcK, HT.out]
          subst hcK
          subst hxT
          clear HX HT
          go_wp2
          go_ret2
          exact magEnd_mk (by rw [HP2.out]; rfl) (fun v hv => by rw [HP2.out] at hv; exact Option.some.inj hv)
        · have hx2 : x ≤ 100000000000000 := by
            rw [HX.out]
            exact Nat.pow_le_pow_right (n := 10) (by omega) (show c ≤ 14 by omega)
          go_wp2
          go_round
          case rel => exact ⟨c + 1, x * 10, by congr 1; omega, by go_num, by omega, by omega, show x * 10 = 10 ^ (c + 1) by rw [Nat.pow_succ, ← HX.out]⟩
          case measure => simp [intOf]; omega
  · have n46 : ({ data := t.toArray } : ByteArray)[dg t 0].toNat ≠ 46 := by
      rw [hat]; intro h; exact h6 (UInt8.toNat_inj.1 h)
    have b46 : ((({ data := t.toArray } : ByteArray)[dg t 0].toNat : Int) == 46) = false := by rw [beq_eq_false_iff_ne]; omega
    by_cases h7 : t[dg t 0] = 112
    · have hat2 : (({ data := t.toArray } : ByteArray)[dg t 0].toNat : Int) = 112 := by rw [hat, h7]; rfl
      clear b46 n46
      by_cases h8 : t[dg t 0 + 1]? = some 45
      · have hlt1 : dg t 0 + 1 < t.length := (List.getElem?_eq_some_iff.1 h8).1
        have hat3 : (({ data := t.toArray } : ByteArray)[dg t 0 + 1].toNat : Int) = 45 := by
          have := (List.getElem?_eq_some_iff.1 h8).2
          rw [str_at hlt1, this]; rfl
        have hP := magP_down h1 h2 h5 (by rw [hget, h7]) h8
        clear h6 h7 h8
        have hrun2 := fun w => run_at t ((dg t 0 : Int) + 1 + 1) (dg t 0 + 2) 0 w (by omega) hl (by omega) (by omega)
        have hd1 : dg t (dg t 0 + 2) ≤ t.length := by have := dg_le t (dg t 0 + 2); omega
        have hn2 : dg t (dg t 0 + 2) ≤ 4 → nm t (dg t 0 + 2) 0 < 10000 := by
          intro h
          have h1 := nm0_lt t (dg t 0 + 2)
          have h2 : 10 ^ dg t (dg t 0 + 2) ≤ 10 ^ 4 := Nat.pow_le_pow_right (by omega) h
          omega
        generalize hA : nm t (dg t 0 + 2) 0 = A at *
        generalize hK : dg t (dg t 0 + 2) = K at *
        clear hget hat h1 h2 h5 hA hK
        have HP : Hid (magP t = _) := hP
        clear hP
        generalize nm t 0 0 = m at *
        generalize dg t 0 = d at *
        by_cases c1 : K = 0 ∨ 4 < K ∨ d + 2 + K ≠ t.length ∨ 2 ^ 53 < m
        · have HP2 : Hid (magP t = none) := by show _ = _; rw [HP.out, if_pos c1]
          clear HP
          have c2 : (K = 0) ∨ (((K : Int) == 0) = false ∧ 4 < K) ∨ (((K : Int) == 0) = false ∧ K ≤ 4 ∧ ((d : Int) + 2 + (K : Int) != (t.length : Int)) = true) ∨ (((K : Int) == 0) = false ∧ K ≤ 4 ∧ ((d : Int) + 2 + (K : Int) != (t.length : Int)) = false ∧ 9007199254740992 < m) := by
            simp only [beq_eq_false_iff_ne, bne_iff_ne, bne_eq_false_iff_eq]
            omega
          clear c1
          rcases c2 with c2 | ⟨c2, c3⟩ | ⟨c2, c3, c4⟩ | ⟨c2, c3, c4, c5⟩
          all_goals
            go_enter Tryz.func123, Tryz.ntmps123
            go_wp2_with fail
            refine (hrun _).mono ?_
            rintro e w' ⟨rfl, rfl⟩
            go_wp2_with fail
            refine (hrun2 _).mono ?_
            rintro e w' ⟨rfl, rfl⟩
            go_wp2
            go_ret2
            exact magEnd_mk (by rw [HP2.out]; rfl) (fun v hv => by rw [HP2.out] at hv; cases hv)
        · have hm1 : K ≠ 0 ∧ K ≤ 4 ∧ d + 2 + K = t.length ∧ m ≤ 9007199254740992 := by
            refine ⟨?_, ?_, ?_, ?_⟩
            · intro h; exact c1 (.inl h)
            · by_cases c : K ≤ 4
              · exact c
              · exact absurd (.inr (.inl (by omega))) c1
            · by_cases c : d + 2 + K = t.length
              · exact c
              · exact absurd (.inr (.inr (.inl c))) c1
            · by_cases c : m ≤ 9007199254740992
              · exact c
              · exact absurd (.inr (.inr (.inr (by omega)))) c1
          obtain ⟨g1, g2, g3, g4⟩ := hm1
          have hA4 := hn2 g2
          have HP2 : Hid (magP t = some (double.nearest false m (-(A : Int)))) := by
            show _ = _; rw [HP.out, if_neg c1]
          have G3 : Hid (d + 2 + K = t.length) := g3
          have b1 : ((K : Int) == 0) = false := by rw [beq_eq_false_iff_ne]; omega
          have b2 : ((d : Int) + 2 + (K : Int) != (t.length : Int)) = false := by simp; omega
          have hfa := fofnat m
          clear HP c1 g3
          go_enter Tryz.func123, Tryz.ntmps123
          go_wp2_with fail
          refine (hrun _).mono ?_
          rintro e w' ⟨rfl, rfl⟩
          go_wp2_with fail
          refine (hrun2 _).mono ?_
          rintro e w' ⟨rfl, rfl⟩
          go_wp2_with (go_at_call 128; refine (Ldexp_any m _ _ (by omega) (by omega) (by omega)).mono ?_; rintro e w' ⟨rfl, rfl⟩)
          go_ret2
          exact magEnd_mk (by rw [HP2.out]; rfl) (fun v hv => by rw [HP2.out] at hv; exact Option.some.inj hv)
      · have hlt1 : (dg t 0 + 1 = t.length) ∨ (∃ h : dg t 0 + 1 < t.length, ((({ data := t.toArray } : ByteArray)[dg t 0 + 1].toNat : Int) == 45) = false) := by
          by_cases c : dg t 0 + 1 < t.length
          · right
            refine ⟨c, ?_⟩
            rw [beq_eq_false_iff_ne, str_at c]
            intro h
            have : t[dg t 0 + 1] = 45 := UInt8.toNat_inj.1 (by simpa using Int.ofNat_inj.1 h)
            exact h8 (by rw [List.getElem?_eq_getElem c, this])
          · left; omega
        have hP := magP_up h1 h2 h5 (by rw [hget, h7]) h8
        clear h6 h7 h8
        rcases hlt1 with hlt1 | ⟨hlt1, hat3⟩
        · have hn : dg t (dg t 0 + 1) = 0 := by have := dg_le t (dg t 0 + 1); omega
          have hrun2 := fun w => run_at t ((dg t 0 : Int) + 1) (dg t 0 + 1) 0 w (by omega) hl (by omega) (by omega)
          have HP : Hid (magP t = none) := by show _ = _; rw [hP, if_pos (.inl hn)]
          rw [hn] at hrun2
          have hle : t.length ≤ dg t 0 + 1 := by omega
          clear hP h1 h2 h5 hlt1 hget hat hn
          go_enter Tryz.func123, Tryz.ntmps123
          go_wp2_with fail
          refine (hrun _).mono ?_
          rintro e w' ⟨rfl, rfl⟩
          go_wp2_with fail
          refine (hrun2 _).mono ?_
          rintro e w' ⟨rfl, rfl⟩
          go_wp2
          go_ret2
          exact magEnd_mk (by rw [HP.out]; rfl) (fun v hv => by rw [HP.out] at hv; cases hv)
        · skip
          have hrun2 := fun w => run_at t ((dg t 0 : Int) + 1) (dg t 0 + 1) 0 w (by omega) hl (by omega) (by omega)
          have hd1 : dg t (dg t 0 + 1) ≤ t.length := by have := dg_le t (dg t 0 + 1); omega
          have hn2 : dg t (dg t 0 + 1) ≤ 4 → nm t (dg t 0 + 1) 0 < 10000 := by
            intro h
            have h1 := nm0_lt t (dg t 0 + 1)
            have h2 : 10 ^ dg t (dg t 0 + 1) ≤ 10 ^ 4 := Nat.pow_le_pow_right (by omega) h
            omega
          generalize hA : nm t (dg t 0 + 1) 0 = A at *
          generalize hK : dg t (dg t 0 + 1) = K at *
          clear hget hat h1 h2 h5 hA hK
          have HP : Hid (magP t = _) := hP
          clear hP
          generalize nm t 0 0 = m at *
          generalize dg t 0 = d at *
          by_cases c1 : K = 0 ∨ 4 < K ∨ d + 1 + K ≠ t.length ∨ 2 ^ 53 < m
          · have HP2 : Hid (magP t = none) := by show _ = _; rw [HP.out, if_pos c1]
            clear HP
            have c2 : (K = 0) ∨ (((K : Int) == 0) = false ∧ 4 < K) ∨ (((K : Int) == 0) = false ∧ K ≤ 4 ∧ ((d : Int) + 1 + (K : Int) != (t.length : Int)) = true) ∨ (((K : Int) == 0) = false ∧ K ≤ 4 ∧ ((d : Int) + 1 + (K : Int) != (t.length : Int)) = false ∧ 9007199254740992 < m) := by
              simp only [beq_eq_false_iff_ne, bne_iff_ne, bne_eq_false_iff_eq]
              omega
            clear c1
            rcases c2 with c2 | ⟨c2, c3⟩ | ⟨c2, c3, c4⟩ | ⟨c2, c3, c4, c5⟩
            all_goals
              go_enter Tryz.func123, Tryz.ntmps123
              go_wp2_with fail
              refine (hrun _).mono ?_
              rintro e w' ⟨rfl, rfl⟩
              go_wp2_with fail
              refine (hrun2 _).mono ?_
              rintro e w' ⟨rfl, rfl⟩
              go_wp2
              go_ret2
              exact magEnd_mk (by rw [HP2.out]; rfl) (fun v hv => by rw [HP2.out] at hv; cases hv)
          · have hm1 : K ≠ 0 ∧ K ≤ 4 ∧ d + 1 + K = t.length ∧ m ≤ 9007199254740992 := by
              refine ⟨?_, ?_, ?_, ?_⟩
              · intro h; exact c1 (.inl h)
              · by_cases c : K ≤ 4
                · exact c
                · exact absurd (.inr (.inl (by omega))) c1
              · by_cases c : d + 1 + K = t.length
                · exact c
                · exact absurd (.inr (.inr (.inl c))) c1
              · by_cases c : m ≤ 9007199254740992
                · exact c
                · exact absurd (.inr (.inr (.inr (by omega)))) c1
            obtain ⟨g1, g2, g3, g4⟩ := hm1
            have hA4 := hn2 g2
            have HP2 : Hid (magP t = some (double.nearest false m (A : Int))) := by
              show _ = _; rw [HP.out, if_neg c1]
            have G3 : Hid (d + 1 + K = t.length) := g3
            have b1 : ((K : Int) == 0) = false := by rw [beq_eq_false_iff_ne]; omega
            have b2 : ((d : Int) + 1 + (K : Int) != (t.length : Int)) = false := by simp; omega
            have hfa := fofnat m
            clear HP c1 g3
            go_enter Tryz.func123, Tryz.ntmps123
            go_wp2_with fail
            refine (hrun _).mono ?_
            rintro e w' ⟨rfl, rfl⟩
            go_wp2_with fail
            refine (hrun2 _).mono ?_
            rintro e w' ⟨rfl, rfl⟩
            go_wp2_with (go_at_call 128; refine (Ldexp_any m _ _ (by omega) (by omega) (by omega)).mono ?_; rintro e w' ⟨rfl, rfl⟩)
            go_ret2
            exact magEnd_mk (by rw [HP2.out]; rfl) (fun v hv => by rw [HP2.out] at hv; exact Option.some.inj hv)
    · have HP : Hid (magP t = none) := magP_other h1 h2 h5 (by rw [hget]; simpa using h6) (by rw [hget]; simpa using h7)
      have n112 : ({ data := t.toArray } : ByteArray)[dg t 0].toNat ≠ 112 := by
        rw [hat]; intro h; exact h7 (UInt8.toNat_inj.1 h)
      have b112 : ((({ data := t.toArray } : ByteArray)[dg t 0].toNat : Int) == 112) = false := by rw [beq_eq_false_iff_ne]; omega
      clear h1 h2 h5 h6 h7 hget hat n46 n112
      go_enter Tryz.func123, Tryz.ntmps123
      go_wp2_with (go_at_call 127; refine (hrun _).mono ?_; rintro e w' ⟨rfl, rfl⟩)
      go_ret2
      exact magEnd_mk (by rw [HP.out]; rfl) (fun v hv => by rw [HP.out] at hv; cases hv)

/-- What num.Parse answers. -/
def ParseEnd (s : List UInt8) (w : World) (e : Ending) (w' : World) : Prop := e = .returned (.tuple #[.int .u64 ((parseP s).1 : Int), .int .i64 (parseP s).2]) ∧ w' = w
theorem parseEnd_mk {s : List UInt8} {w : World} {a b : Int} (ha : a = ((parseP s).1 : Int)) (hb : b = (parseP s).2) : ParseEnd s w (.returned (.tuple #[.int .u64 a, .int .i64 b])) w := ⟨by rw [ha, hb], rfl⟩

theorem str_tail (s : List UInt8) : ({ data := s.toArray } : ByteArray).extract 1 s.length = ⟨s.tail.toArray⟩ := by
  apply ByteArray.ext
  rw [ByteArray.data_extract]
  cases s <;> simp

set_option maxHeartbeats 800000 in
theorem parse_any (p : Value) (s : List UInt8) (w : World) (hl : s.length ≤ 9223372036854775807) : Calls Tryz.prog 112 #[p, .string ⟨s.toArray⟩] w (ParseEnd s w) := by
  by_cases h1 : 24 < s.length
  · have HP : Hid (parseP s = (0, 1)) := by show _ = _; unfold parseP; rw [if_pos h1]
    go_enter Tryz.func112, Tryz.ntmps112
    go_wp2
    go_ret2
    exact parseEnd_mk (by rw [HP.out]; rfl) (by rw [HP.out])
  have hl2 : s.length ≤ 24 := by omega
  by_cases h2 : s = [110, 97, 110]
  · have HP : Hid (parseP s = (nanW, 0)) := by show _ = _; unfold parseP; rw [if_neg h1, if_pos h2]
    have e1 : (s == [110, 97, 110]) = true := by simp [h2]
    clear h2
    go_enter Tryz.func112, Tryz.ntmps112
    go_wp2
    go_ret2
    exact parseEnd_mk (by rw [HP.out]; rfl) (by rw [HP.out])
  have e1 : (s == [110, 97, 110]) = false := by simp [h2]
  by_cases h3 : s[0]? = some 45
  · have hlt : 0 < s.length := (List.getElem?_eq_some_iff.1 h3).1
    have hat : (({ data := s.toArray } : ByteArray)[0].toNat : Int) = 45 := by
      have := (List.getElem?_eq_some_iff.1 h3).2
      rw [str_at hlt, this]; rfl
    have hex := str_tail s
    have hlt2 : s.tail.length ≤ 24 := by rw [List.length_tail]; omega
    cases hm : magP s.tail with
    | none =>
      have HP : Hid (parseP s = (0, 2)) := by show _ = _; unfold parseP; rw [if_neg h1, if_neg h2, if_pos h3, hm]
      clear h1 h2 h3
      have HM : Hid (magP s.tail = none) := hm
      clear hm
      go_enter Tryz.func112, Tryz.ntmps112
      go_wp2_with (go_at_call 123; refine (magnitude_any s.tail _ hlt2).mono ?_; rintro e w' ⟨f, rfl, hf, rfl⟩; rw [HM.out] at hf; rw [HM.out])
      go_ret2
      exact parseEnd_mk (by rw [HP.out]; rfl) (by rw [HP.out])
    | some v =>
      have HP : Hid (parseP s = (flip v, 0)) := by show _ = _; unfold parseP; rw [if_neg h1, if_neg h2, if_pos h3, hm]; rfl
      clear h1 h2 h3
      have HM : Hid (magP s.tail = some v) := hm
      clear hm
      go_enter Tryz.func112, Tryz.ntmps112
      go_wp2_with (go_at_call 123; refine (magnitude_any s.tail _ hlt2).mono ?_; rintro e w' ⟨f, rfl, hf, rfl⟩; rw [HM.out] at hf; rw [HM.out]; have hfv := hf v rfl; subst hfv)
      go_ret2
      exact parseEnd_mk (by rw [HP.out]) (by rw [HP.out])
  have hneg : s.length = 0 ∨ (∃ h : 0 < s.length, ((({ data := s.toArray } : ByteArray)[0].toNat : Int) == 45) = false) := by
    by_cases c : 0 < s.length
    · right
      refine ⟨c, ?_⟩
      rw [beq_eq_false_iff_ne, str_at c]
      intro h
      have : s[0] = 45 := UInt8.toNat_inj.1 (by simpa using Int.ofNat_inj.1 h)
      exact h3 (by rw [List.getElem?_eq_getElem c, this])
    · left; omega
  cases hm : magP s with
  | none =>
    have HP : Hid (parseP s = (0, 2)) := by show _ = _; unfold parseP; rw [if_neg h1, if_neg h2, if_neg h3, hm]
    clear h1 h2 h3
    have HM : Hid (magP s = none) := hm
    clear hm
    rcases hneg with hneg | ⟨hlt, hat⟩
    · have hle : s.length ≤ 0 := by omega
      clear hneg
      go_enter Tryz.func112, Tryz.ntmps112
      go_wp2_with (go_at_call 123; refine (magnitude_any s _ hl2).mono ?_; rintro e w' ⟨f, rfl, hf, rfl⟩; rw [HM.out] at hf; rw [HM.out])
      go_ret2
      exact parseEnd_mk (by rw [HP.out]; rfl) (by rw [HP.out])
    · go_enter Tryz.func112, Tryz.ntmps112
      go_wp2_with (go_at_call 123; refine (magnitude_any s _ hl2).mono ?_; rintro e w' ⟨f, rfl, hf, rfl⟩; rw [HM.out] at hf; rw [HM.out])
      go_ret2
      exact parseEnd_mk (by rw [HP.out]; rfl) (by rw [HP.out])
  | some v =>
    have HP : Hid (parseP s = (v, 0)) := by show _ = _; unfold parseP; rw [if_neg h1, if_neg h2, if_neg h3, hm]
    clear h1 h2 h3
    have HM : Hid (magP s = some v) := hm
    rcases hneg with hneg | ⟨hlt, hat⟩
    · have : s = [] := List.eq_nil_of_length_eq_zero hneg
      subst this
      have hd : dg [] 0 = 0 := rfl
      have : magP [] = none := by unfold magP; rw [if_neg (by decide), if_pos (.inl hd)]
      rw [this] at hm; cases hm
    · clear hm
      go_enter Tryz.func112, Tryz.ntmps112
      go_wp2_with (go_at_call 123; refine (magnitude_any s _ hl2).mono ?_; rintro e w' ⟨f, rfl, hf, rfl⟩; rw [HM.out] at hf; rw [HM.out]; have hfv := hf v rfl; subst hfv)
      go_ret2
      exact parseEnd_mk (by rw [HP.out]) (by rw [HP.out])
end Go.Proofs.Qxb6500293aGreatRR
