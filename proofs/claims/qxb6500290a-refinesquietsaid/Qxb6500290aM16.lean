import Derived.Test.Qxb6500290aM15
import Derived.Deep.CutBlock
namespace Go.Proofs.Qxb6500290a
open Go.RowKit
open Ieee (double)
set_option linter.unusedVariables false

theorem digit_yes (n : Int) (w : World) (h1 : 48 ≤ n) (h2 : n ≤ 57) : Calls Try.prog 69 #[.int .u8 n] w fun e w' => e = .returned (.bool true) ∧ w' = w := by
  go_enter Try.func69, Try.ntmps69
  go_wp2
  go_ret
  exact ⟨rfl, rfl⟩
theorem digit_no (n : Int) (w : World) (h : n < 48 ∨ 57 < n) : Calls Try.prog 69 #[.int .u8 n] w fun e w' => e = .returned (.bool false) ∧ w' = w := by
  rcases h with h | h
  all_goals
    go_enter Try.func69, Try.ntmps69
    go_wp2
    go_ret
    exact ⟨ret_bool (by simp; try omega), rfl⟩
theorem str_drop (s : List UInt8) (k : Nat) : ({ data := s.toArray } : ByteArray).extract k s.length = ⟨(s.drop k).toArray⟩ := by
  apply ByteArray.ext
  rw [ByteArray.data_extract]
  simp [List.take_of_length_le]
/-- The sign, and how many bytes it takes. -/
theorem sign_cases (s : List UInt8) : ∃ (b : Bool) (k : Nat), ((s[0]? = some 45 ∧ b = true ∧ k = 1) ∨ (¬ s[0]? = some 45 ∧ b = false ∧ k = 0)) := by
  by_cases c : s[0]? = some 45
  · exact ⟨true, 1, .inl ⟨c, rfl, rfl⟩⟩
  · exact ⟨false, 0, .inr ⟨c, rfl, rfl⟩⟩
theorem at_is {s : List UInt8} {i : Nat} {c : UInt8} (h : s[i]? = some c) : ∃ _ : i < s.length, (({ data := s.toArray } : ByteArray)[i].toNat : Int) = (c.toNat : Int) := by
  obtain ⟨h1, h2⟩ := List.getElem?_eq_some_iff.1 h
  exact ⟨h1, by rw [str_at h1, h2]⟩
theorem at_not {s : List UInt8} {i : Nat} {c : UInt8} (h : ¬ s[i]? = some c) : s.length ≤ i ∨ ∃ _ : i < s.length, ((({ data := s.toArray } : ByteArray)[i].toNat : Int) == (c.toNat : Int)) = false := by
  by_cases h1 : i < s.length
  · right
    refine ⟨h1, ?_⟩
    rw [beq_eq_false_iff_ne, str_at h1]
    intro e
    have : s[i] = c := UInt8.toNat_inj.1 (by omega)
    exact h (by rw [List.getElem?_eq_getElem h1, this])
  · left; omega

/-- Behind the digits: no point met; or the point and what follows it. -/
def ShA (s : List UInt8) (k : Nat) (i m t nd kk : Value) : Prop := ∃ j q : Nat, i = .int .i64 ((k + j : Nat) : Int) ∧ m = .int .u64 (q : Int) ∧ t = .int .u64 1 ∧ nd = .int .i64 (j : Int) ∧ kk = .int .i64 (-1) ∧ j ≤ 16 ∧ k + j ≤ s.length ∧ q < 18446744073709551616 ∧ Hid (dg s k = j ∧ nm s k 0 = q ∧ (j = 0 ∨ ¬ s[k + j]? = some 46))
def ShB (s : List UInt8) (k : Nat) (i m t nd kk : Value) : Prop := ∃ d c q T : Nat, i = .int .i64 ((k + d + 1 + c : Nat) : Int) ∧ m = .int .u64 (q : Int) ∧ t = .int .u64 (T : Int) ∧ nd = .int .i64 ((d + c : Nat) : Int) ∧ kk = .int .i64 (c : Int) ∧ 1 ≤ d ∧ d + c ≤ 16 ∧ k + d + 1 + c ≤ s.length ∧ q < 18446744073709551616 ∧ T ≤ 1000000000000000 ∧ Hid (dg s k = d ∧ s[k + d]? = some 46 ∧ dg s (k + d + 1) = c ∧ nm s (k + d + 1) (nm s k 0) = q ∧ T = 10 ^ c)
/-- The same amid the digits. -/
def LpA (s : List UInt8) (k : Nat) (i m t nd kk : Value) : Prop := ∃ j q : Nat, i = .int .i64 ((k + j : Nat) : Int) ∧ m = .int .u64 (q : Int) ∧ t = .int .u64 1 ∧ nd = .int .i64 (j : Int) ∧ kk = .int .i64 (-1) ∧ j ≤ 16 ∧ k + j ≤ s.length ∧ q < 18446744073709551616 ∧ Hid (q = val 0 ((s.drop k).take j) % 18446744073709551616 ∧ ∀ c ∈ (s.drop k).take j, isDigit c = true)
def LpB (s : List UInt8) (k : Nat) (i m t nd kk : Value) : Prop := ∃ d c q T : Nat, i = .int .i64 ((k + d + 1 + c : Nat) : Int) ∧ m = .int .u64 (q : Int) ∧ t = .int .u64 (T : Int) ∧ nd = .int .i64 ((d + c : Nat) : Int) ∧ kk = .int .i64 (c : Int) ∧ 1 ≤ d ∧ d + c ≤ 16 ∧ k + d + 1 + c ≤ s.length ∧ q < 18446744073709551616 ∧ T ≤ 1000000000000000 ∧ Hid (dg s k = d ∧ s[k + d]? = some 46 ∧ q = val (nm s k 0) ((s.drop (k + d + 1)).take c) % 18446744073709551616 ∧ (∀ x ∈ (s.drop (k + d + 1)).take c, isDigit x = true) ∧ T = 10 ^ c)

set_option maxRecDepth 8000 in
set_option maxHeartbeats 3200000 in
theorem parse_M (p : Value) (s : List UInt8) (w : World) (hl : s.length ≤ 9223372036854775807) : Calls Try.prog 50 #[p, .string ⟨s.toArray⟩] w (ParseEnd s w) := by
  by_cases h1 : 24 < s.length
  · have HP : Hid (parseP s = (0, 1)) := by show _ = _; unfold parseP; rw [if_pos h1]
    go_enter Try.func50, Try.ntmps50
    go_wp2
    go_ret2
    exact parseEnd_mk (by rw [HP.out]; rfl) (by rw [HP.out])
  have hl2 : s.length ≤ 24 := by omega
  obtain ⟨b, k, hb⟩ := sign_cases s
  have hk1 : k ≤ 1 := by omega
  have hks : k ≤ s.length := by
    rcases hb with ⟨c, _, rfl⟩ | ⟨_, _, rfl⟩
    · exact (at_is c).1
    · omega
  have HNAN : Hid (s = [110, 97, 110] → parseP s = (nanW, 0)) := fun h => by unfold parseP; rw [if_neg h1, if_pos h]
  have HSG : Hid (¬ s = [110, 97, 110] → parseP s = signedP b (magP (s.drop k))) := fun h => parseP_sg hl2 h b k hb
  have HB : Hid ((s[0]? = some 45 ∧ b = true ∧ k = 1) ∨ (¬ s[0]? = some 45 ∧ b = false ∧ k = 0)) := hb
  obtain ⟨S, hS, hS2⟩ : ∃ S : Nat, S = sgW b ∧ S ≤ 9223372036854775808 := ⟨_, rfl, by cases b <;> decide⟩
  have HS : Hid (S = sgW b) := hS
  clear hb hS h1 hl
  go_enter Try.func50, Try.ntmps50
  go_upto_region 5 with fail
  go_cut [30] from 21 (fun c wx => c = .bool b ∧ wx = w)
  case first =>
    rcases HB.out with ⟨h3, h4, _⟩ | ⟨h3, h4, _⟩
    · obtain ⟨h5, h6⟩ := at_is h3
      clear h3
      go_wp2
      go_meet
      case rel => exact ⟨by rw [h4], rfl⟩
    · rcases at_not h3 with h5 | ⟨h5, h6⟩
      · clear h3
        go_wp2
        go_meet
        case rel => exact ⟨by rw [h4], rfl⟩
      · clear h3
        go_wp2
        go_meet
        case rel => exact ⟨by rw [h4]; exact congrArg Value.bool h6, rfl⟩
  case rest =>
  obtain ⟨rfl, rfl⟩ := hcut
  go_upto_if 30 with fail
  go_cut [6, 7] from 21 (fun i g wx => i = .int .i64 (k : Int) ∧ g = .int .u64 (S : Int) ∧ wx = wc)
  case first =>
    rcases HB.out with ⟨h3, h4, h5⟩ | ⟨h3, h4, h5⟩
    all_goals
      have e1 : S = _ := HS.out.trans (by rw [h4])
      subst h4 h5 e1
      clear h3 HSG HNAN HB HS
      go_wp2
      go_meet
      case rel => exact ⟨by rfl, by rfl, rfl⟩
  case rest =>
  obtain ⟨rfl, rfl, rfl⟩ := hcut
  have hex := str_drop s k
  by_cases hi : s.drop k = [105, 110, 102]
  · have e1 : (s.drop k == [105, 110, 102]) = true := by simp [hi]
    have hnn : ¬ s = [110, 97, 110] := by
      intro h
      rcases HB.out with ⟨h3, _, _⟩ | ⟨_, _, rfl⟩
      · rw [h] at h3; exact absurd h3 (by decide)
      · rw [h] at hi; exact absurd hi (by decide)
    have HV : Hid (parseP s = (laidS b 9218868437227405312, 0)) := (HSG.out hnn).trans (by rw [hi, magP, if_pos rfl, signedP_some])
    have hor := or_sg b (x := 9218868437227405312) (by decide)
    rw [← HS.out] at hor
    have hor : bits .or .u64 (S : Int) 9218868437227405312 = ((laidS b 9218868437227405312 : Nat) : Int) := hor
    clear hi hnn HSG HNAN HB HS
    go_wp2
    go_ret2
    exact parseEnd_mk (by rw [HV.out]) (by rw [HV.out])
  have HI : Hid (¬ s.drop k = [105, 110, 102]) := hi
  have e1 : (s.drop k == [105, 110, 102]) = false := by simp [hi]
  clear hi
  by_cases hn : s = [110, 97, 110]
  · have HV : Hid (parseP s = (nanW, 0)) := HNAN.out hn
    have e2 : (s == [110, 97, 110]) = true := by simp [hn]
    clear hn HSG HNAN HB HS HI
    go_wp2
    go_ret2
    exact parseEnd_mk (by rw [HV.out]; rfl) (by rw [HV.out])
  have HV : Hid (parseP s = signedP b (magP (s.drop k))) := HSG.out hn
  have e2 : (s == [110, 97, 110]) = false := by simp [hn]
  clear hn HSG HNAN HB
  have HNO : Hid (magP (s.drop k) = none → parseP s = (0, 2)) := fun h => by rw [HV.out, h]; rfl
  go_upto_block 0 with fail
  go_cut [6, 8, 9, 10, 11] from 41 (fun i m t nd kk wx => wx = wc ∧ (ShA s k i m t nd kk ∨ ShB s k i m t nd kk))
  case first =>
    clear hex e1 e2 HV
    go_wp2_with fail
    go_loop [6, 8, 9, 10, 11] (fun i m t nd kk => LpA s k i m t nd kk ∨ LpB s k i m t nd kk) (fun i _ _ _ _ => s.length - (intOf i).toNat)
    case atStart => exact .inl ⟨0, 0, by simp, rfl, rfl, rfl, rfl, by omega, by omega, by omega, show _ ∧ _ from ⟨by simp [val], by simp⟩⟩
    case round =>
      rcases hrel with ⟨j, q, rfl, rfl, rfl, rfl, rfl, hj, hjs, hq, HQ⟩ | ⟨d, c, q, T, rfl, rfl, rfl, rfl, rfl, hd, hdc, hjs, hq, hT, HQ⟩
      · by_cases hlt : k + j < s.length
        · have hc := str_at hlt
          by_cases h46 : s[k + j] = 46 ∧ 0 < j
          · have x46 : (({ data := s.toArray } : ByteArray)[k + j].toNat : Int) = 46 := by rw [hc, h46.1]; rfl
            have H46 : Hid (s[k + j]? = some 46) := by show _ = _; rw [List.getElem?_eq_getElem hlt, h46.1]
            have HE : Hid (dg s k = j ∧ nm s k 0 = q) := run_end HQ.out.1 HQ.out.2 hjs (.inr ⟨hlt, by rw [h46.1]; decide⟩)
            have j0 : 0 < j := h46.2
            clear h46 hc HQ
            go_wp2_with fail
            go_round
            case rel =>
              exact .inr ⟨j, 0, q, 1, by go_num, rfl, rfl, by simp, rfl, by omega, by omega, by omega, hq, by omega, show _ ∧ _ ∧ _ ∧ _ ∧ _ from ⟨HE.out.1, H46.out, by rw [List.take_zero, HE.out.2]; exact (Nat.mod_eq_of_lt hq).symm, by simp, rfl⟩⟩
            case measure => simp [intOf]; omega
          by_cases hdg : isDigit s[k + j] = true
          · have x48 : 48 ≤ (({ data := s.toArray } : ByteArray)[k + j].toNat : Int) := by rw [hc]; simp [isDigit] at hdg; omega
            have x57 : (({ data := s.toArray } : ByteArray)[k + j].toNat : Int) ≤ 57 := by rw [hc]; simp [isDigit] at hdg; omega
            have x46 : ((({ data := s.toArray } : ByteArray)[k + j].toNat : Int) == 46) = false := by rw [beq_eq_false_iff_ne]; omega
            have hmr := run_more HQ.out.1 HQ.out.2 hlt hdg
            have HM : Hid ((q * 10 + (s[k + j].toNat - 48)) % 18446744073709551616 = val 0 ((s.drop k).take (j + 1)) % 18446744073709551616 ∧ ∀ c ∈ (s.drop k).take (j + 1), isDigit c = true) := hmr
            have HC : Hid (({ data := s.toArray } : ByteArray)[k + j] = s[k + j]) := hc
            clear hmr hc h46 HQ hdg
            by_cases h16 : j = 16
            · have HR : Hid (parseP s = (0, 2)) := HNO.out (mag_none HI.out (.inr (by have := dg_ge HM.out.2 (by omega); omega)))
              subst h16
              clear HM HC HNO
              go_wp2_with fail
              refine (digit_yes _ _ x48 x57).mono ?_; rintro e w' ⟨rfl, rfl⟩
              go_wp2
              go_ret2
              exact parseEnd_mk (by rw [HR.out]; rfl) (by rw [HR.out])
            · have h15 : j < 16 := by omega
              clear h16
              go_wp2_with fail
              refine (digit_yes _ _ x48 x57).mono ?_; rintro e w' ⟨rfl, rfl⟩
              go_wp2_with fail
              go_round
              case rel =>
                refine .inl ⟨j + 1, (q * 10 + (s[k + j].toNat - 48)) % 18446744073709551616, by go_num, ?_, rfl, by go_num, rfl, by omega, by omega, by omega, HM⟩
                congr 1
                rw [HC.out] at x48 x57 ⊢
                simp only [IntKind.wrap_u64]
                omega
              case measure => simp [intOf]; omega
          · have HE : Hid (dg s k = j ∧ nm s k 0 = q) := run_end HQ.out.1 HQ.out.2 hjs (.inr ⟨hlt, by simpa using hdg⟩)
            have HN : Hid (j = 0 ∨ ¬ s[k + j]? = some 46) := by
              show _ ∨ _
              by_cases j0 : j = 0
              · exact .inl j0
              · right
                rw [List.getElem?_eq_getElem hlt]
                intro h
                exact h46 ⟨Option.some.inj h, by omega⟩
            have xno : (({ data := s.toArray } : ByteArray)[k + j].toNat : Int) < 48 ∨ 57 < (({ data := s.toArray } : ByteArray)[k + j].toNat : Int) := by rw [hc]; simp [isDigit] at hdg; omega
            have hcase : (((({ data := s.toArray } : ByteArray)[k + j].toNat : Int) == 46) = false) ∨ ((({ data := s.toArray } : ByteArray)[k + j].toNat : Int) = 46 ∧ j = 0) := by
              by_cases h : (({ data := s.toArray } : ByteArray)[k + j].toNat : Int) = 46
              · right
                refine ⟨h, ?_⟩
                rw [hc] at h
                by_cases j0 : j = 0
                · exact j0
                · exact absurd ⟨UInt8.toNat_inj.1 (by rw [Int.ofNat_inj.1 h]; rfl), by omega⟩ h46
              · left; rw [beq_eq_false_iff_ne]; exact h
            clear h46 hc HQ hdg
            rcases hcase with x46 | ⟨x46, j0⟩
            · go_wp2_with fail
              refine (digit_no _ _ xno).mono ?_; rintro e w' ⟨rfl, rfl⟩
              go_wp2_with fail
              go_meet
              case rel => exact ⟨rfl, .inl ⟨j, q, by rfl, by rfl, by rfl, by rfl, by rfl, hj, hjs, hq, show _ ∧ _ ∧ _ from ⟨HE.out.1, HE.out.2, HN.out⟩⟩⟩
            · have dno := fun w => digit_no 46 w (.inl (by omega))
              subst j0
              go_wp2_with fail
              refine (dno _).mono ?_; rintro e w' ⟨rfl, rfl⟩
              go_wp2_with fail
              go_meet
              case rel => exact ⟨rfl, .inl ⟨0, q, by rfl, by rfl, by rfl, by rfl, by rfl, hj, hjs, hq, show _ ∧ _ ∧ _ from ⟨HE.out.1, HE.out.2, .inl rfl⟩⟩⟩
        · have HE : Hid (dg s k = j ∧ nm s k 0 = q) := run_end HQ.out.1 HQ.out.2 hjs (.inl (by omega))
          have HN : Hid (j = 0 ∨ ¬ s[k + j]? = some 46) := by
            show _ ∨ _
            right
            rw [List.getElem?_eq_none (by omega)]
            intro h; cases h
          clear HQ
          go_wp2_with fail
          go_meet
          case rel => exact ⟨rfl, .inl ⟨j, q, by rfl, by rfl, by rfl, by rfl, by rfl, hj, hjs, hq, show _ ∧ _ ∧ _ from ⟨HE.out.1, HE.out.2, HN.out⟩⟩⟩
      · by_cases hlt : k + d + 1 + c < s.length
        · have hc := str_at hlt
          have hd1 : k + d < s.length := by omega
          by_cases hdg : isDigit s[k + d + 1 + c] = true
          · have x48 : 48 ≤ (({ data := s.toArray } : ByteArray)[k + d + 1 + c].toNat : Int) := by rw [hc]; simp [isDigit] at hdg; omega
            have x57 : (({ data := s.toArray } : ByteArray)[k + d + 1 + c].toNat : Int) ≤ 57 := by rw [hc]; simp [isDigit] at hdg; omega
            have x46 : ((({ data := s.toArray } : ByteArray)[k + d + 1 + c].toNat : Int) == 46) = false := by rw [beq_eq_false_iff_ne]; omega
            have hmr := run_more HQ.out.2.2.1 HQ.out.2.2.2.1 hlt hdg
            have HM : Hid ((q * 10 + (s[k + d + 1 + c].toNat - 48)) % 18446744073709551616 = val (nm s k 0) ((s.drop (k + d + 1)).take (c + 1)) % 18446744073709551616 ∧ ∀ x ∈ (s.drop (k + d + 1)).take (c + 1), isDigit x = true) := hmr
            have HC : Hid (({ data := s.toArray } : ByteArray)[k + d + 1 + c] = s[k + d + 1 + c]) := hc
            clear hmr hc hdg
            by_cases h16 : d + c = 16
            · have HR : Hid (parseP s = (0, 2)) := by
                refine HNO.out ?_
                obtain ⟨q1, q2, _⟩ := HQ.out
                have h17 := dg_ge HM.out.2 (by omega)
                subst q1
                rw [mag_dot HI.out hks hd (by omega) hd1 q2, if_pos (.inr (.inr (.inl (by omega))))]
              have h16' : (d : Int) + (c : Int) = 16 := by omega
              have H16 : Hid (d + c = 16) := h16
              clear HM HC HNO HQ h16
              go_wp2_with fail
              refine (digit_yes _ _ x48 x57).mono ?_; rintro e w' ⟨rfl, rfl⟩
              go_wp2
              go_ret2
              exact parseEnd_mk (by rw [HR.out]; rfl) (by rw [HR.out])
            · have h15 : d + c < 16 := by omega
              have hT2 : T ≤ 100000000000000 := by
                rw [HQ.out.2.2.2.2]
                exact Nat.pow_le_pow_right (n := 10) (by omega) (show c ≤ 14 by omega)
              clear h16
              go_wp2_with fail
              refine (digit_yes _ _ x48 x57).mono ?_; rintro e w' ⟨rfl, rfl⟩
              go_wp2_with fail
              go_round
              case rel =>
                refine .inr ⟨d, c + 1, (q * 10 + (s[k + d + 1 + c].toNat - 48)) % 18446744073709551616, T * 10, by go_num, ?_, by go_num, by go_num, by go_num, by omega, by omega, by omega, by omega, by omega, show _ ∧ _ ∧ _ ∧ _ ∧ _ from ⟨HQ.out.1, HQ.out.2.1, HM.out.1, HM.out.2, by rw [HQ.out.2.2.2.2, Nat.pow_succ]⟩⟩
                congr 1
                rw [HC.out] at x48 x57 ⊢
                simp only [IntKind.wrap_u64]
                omega
              case measure => simp [intOf]; omega
          · have HE : Hid (dg s (k + d + 1) = c ∧ nm s (k + d + 1) (nm s k 0) = q) := run_end HQ.out.2.2.1 HQ.out.2.2.2.1 hjs (.inr ⟨hlt, by simpa using hdg⟩)
            have xno : (({ data := s.toArray } : ByteArray)[k + d + 1 + c].toNat : Int) < 48 ∨ 57 < (({ data := s.toArray } : ByteArray)[k + d + 1 + c].toNat : Int) := by rw [hc]; simp [isDigit] at hdg; omega
            clear hc hdg
            by_cases x46 : (({ data := s.toArray } : ByteArray)[k + d + 1 + c].toNat : Int) = 46
            · have dno := fun w => digit_no 46 w (.inl (by omega))
              clear xno
              go_wp2_with fail
              refine (dno _).mono ?_; rintro e w' ⟨rfl, rfl⟩
              go_wp2_with fail
              go_meet
              case rel => exact ⟨rfl, .inr ⟨d, c, q, T, by rfl, by rfl, by rfl, by rfl, by rfl, hd, hdc, hjs, hq, hT, show _ ∧ _ ∧ _ ∧ _ ∧ _ from ⟨HQ.out.1, HQ.out.2.1, HE.out.1, HE.out.2, HQ.out.2.2.2.2⟩⟩⟩
            · have x46 : ((({ data := s.toArray } : ByteArray)[k + d + 1 + c].toNat : Int) == 46) = false := by rw [beq_eq_false_iff_ne]; exact x46
              go_wp2_with fail
              refine (digit_no _ _ xno).mono ?_; rintro e w' ⟨rfl, rfl⟩
              go_wp2_with fail
              go_meet
              case rel => exact ⟨rfl, .inr ⟨d, c, q, T, by rfl, by rfl, by rfl, by rfl, by rfl, hd, hdc, hjs, hq, hT, show _ ∧ _ ∧ _ ∧ _ ∧ _ from ⟨HQ.out.1, HQ.out.2.1, HE.out.1, HE.out.2, HQ.out.2.2.2.2⟩⟩⟩
        · have HE : Hid (dg s (k + d + 1) = c ∧ nm s (k + d + 1) (nm s k 0) = q) := run_end HQ.out.2.2.1 HQ.out.2.2.2.1 hjs (.inl (by omega))
          go_wp2_with fail
          go_meet
          case rel => exact ⟨rfl, .inr ⟨d, c, q, T, by rfl, by rfl, by rfl, by rfl, by rfl, hd, hdc, hjs, hq, hT, show _ ∧ _ ∧ _ ∧ _ ∧ _ from ⟨HQ.out.1, HQ.out.2.1, HE.out.1, HE.out.2, HQ.out.2.2.2.2⟩⟩⟩
  case rest =>
  clear hex e1 e2
  obtain ⟨rfl, hsh⟩ := hcut
  rcases hsh with ⟨j, q, rfl, rfl, rfl, rfl, rfl, hj, hjs, hq, HQ⟩ | ⟨d, c, q, T, rfl, rfl, rfl, rfl, rfl, hd, hdc, hjs, hq, hT, HQ⟩
  · by_cases j0 : j = 0
    · have HR : Hid (parseP s = (0, 2)) := HNO.out (mag_none HI.out (.inl (by rw [HQ.out.1, j0])))
      subst j0
      clear HQ HNO HI HV HS
      go_wp2
      go_ret2
      exact parseEnd_mk (by rw [HR.out]; rfl) (by rw [HR.out])
    have bj : ((j : Int) == 0) = false := by rw [beq_eq_false_iff_ne]; omega
    have HN : Hid (¬ s[k + j]? = some 46) := HQ.out.2.2.resolve_left j0
    by_cases hbig : 9007199254740992 < q
    · have HR : Hid (parseP s = (0, 2)) := HNO.out (mag_big HI.out (by rw [HQ.out.1]; exact HN.out) (by rw [HQ.out.2.1]; omega))
      clear HQ HNO HI HV HS HN
      go_wp2
      go_ret2
      exact parseEnd_mk (by rw [HR.out]; rfl) (by rw [HR.out])
    have hsm : q ≤ 9007199254740992 := by omega
    by_cases hend : k + j = s.length
    · have hmg := mag_all HI.out (by rw [HQ.out.1]; omega) (by rw [HQ.out.1]; omega) (by rw [HQ.out.1]; exact hend) (by rw [HQ.out.2.1]; omega)
      rw [HQ.out.2.1] at hmg
      have HR : Hid (parseP s = (laidS b (double.nearest false q 0), 0)) := HV.out.trans (by rw [hmg, signedP_some])
      have hn := Fl.nearest_false_le q 0
      have hor := or_sg b (x := double.nearest false q 0) (by omega)
      rw [← HS.out] at hor
      have bl : ((k : Int) + (j : Int) == (s.length : Int)) = true := by rw [beq_iff_eq]; omega
      have pk := fun w => pack_int false 0 (q : Int) 0 0 q false false w rfl rfl rfl rfl (by omega) (by omega) (by omega) (fun h => by cases h)
      rw [show Fl.packP false q 0 false = double.nearest false q 0 from packP_f _ _ _] at pk
      generalize double.nearest false q 0 = X at *
      generalize laidS b X = Z at *
      have hX : X < 18446744073709551616 := by omega
      have HEND : Hid (k + j = s.length) := hend
      clear HQ HNO HI HV HS HN hn hmg hend hbig
      go_wp2_with fail
      refine (pk _).mono ?_; rintro e w' ⟨rfl, rfl⟩
      go_wp2
      go_ret2
      exact parseEnd_mk (by rw [HR.out]) (by rw [HR.out])
    have hlt : k + j < s.length := by omega
    have bl : ((k : Int) + (j : Int) == (s.length : Int)) = false := by rw [beq_eq_false_iff_ne]; omega
    have hc := str_at hlt
    have hget : s[k + j]? = some s[k + j] := List.getElem?_eq_getElem hlt
    by_cases h112 : s[k + j] = 112
    · have x112 : (({ data := s.toArray } : ByteArray)[k + j].toNat : Int) = 112 := by rw [hc, h112]; rfl
      obtain ⟨c, g, hcg⟩ : ∃ (c : Nat) (g : Bool), ((s[k + j + 1]? = some 45 ∧ c = 2 ∧ g = true) ∨ (¬ s[k + j + 1]? = some 45 ∧ c = 1 ∧ g = false)) := by
        by_cases h : s[k + j + 1]? = some 45
        · exact ⟨2, true, .inl ⟨h, rfl, rfl⟩⟩
        · exact ⟨1, false, .inr ⟨h, rfl, rfl⟩⟩
      have hmp := mag_p HI.out hks (by rw [HQ.out.1]; omega) (by rw [HQ.out.1]; exact hj) (by rw [HQ.out.1]; exact hlt) (by rw [HQ.out.1, hget, h112]) c g (by rw [HQ.out.1]; exact hcg)
      rw [HQ.out.1, HQ.out.2.1] at hmp
      have hc1 : 1 ≤ c ∧ c ≤ 2 := by omega
      have hcl : k + j + c ≤ s.length := by
        rcases hcg with ⟨h, rfl, _⟩ | ⟨_, rfl, _⟩
        · have := (at_is h).1; omega
        · omega
      have HMP : Hid (magP (s.drop k) = _) := hmp
      have HCG : Hid ((s[k + j + 1]? = some 45 ∧ c = 2 ∧ g = true) ∨ (¬ s[k + j + 1]? = some 45 ∧ c = 1 ∧ g = false)) := hcg
      clear hmp hcg h112 hget hc HQ HN HI hend hbig
      go_upto_region 42 with fail
      go_cut [126] from 41 (fun y wx => y = .bool g ∧ wx = wc)
      case first =>
        rcases HCG.out with ⟨h3, h4, h5⟩ | ⟨h3, h4, h5⟩
        · obtain ⟨h6, h7⟩ := at_is h3
          clear h3 HCG HMP HV HNO
          go_wp2
          go_meet
          case rel => exact ⟨by rw [h5], rfl⟩
        · rcases at_not h3 with h6 | ⟨h6, h7⟩
          · clear h3 HCG HMP HV HNO
            go_wp2
            go_meet
            case rel => exact ⟨by rw [h5], rfl⟩
          · clear h3 HCG HMP HV HNO
            go_wp2
            go_meet
            case rel => exact ⟨by rw [h5]; exact congrArg Value.bool h7, rfl⟩
      case rest =>
      obtain ⟨rfl, rfl⟩ := hcut
      go_upto_if 126 with fail
      obtain ⟨P, hP⟩ : ∃ P : Nat, P = k + j + c := ⟨_, rfl⟩
      go_cut [6, 15] from 41 (fun i y wx => i = .int .i64 (P : Int) ∧ y = .bool g ∧ wx = wc)
      case first =>
        rcases HCG.out with ⟨h3, h4, h5⟩ | ⟨h3, h4, h5⟩
        all_goals
          subst h4 h5
          clear h3 HCG HMP HV HNO
          go_wp2
          go_meet
          case rel => exact ⟨by congr 1; omega, by rfl, rfl⟩
      case rest =>
      obtain ⟨rfl, rfl, rfl⟩ := hcut
      rw [← hP] at HMP hcl
      clear HCG x112 bl hlt bj j0 hjs hP
      go_wp2_with fail
      go_loop [6, 16, 17] (fun i e ne => ∃ r v : Nat, i = .int .i64 ((P + r : Nat) : Int) ∧ e = .int .i64 (v : Int) ∧ ne = .int .i64 (r : Int) ∧ r ≤ 4 ∧ P + r ≤ s.length ∧ v ≤ 9999 ∧ Hid (v = val 0 ((s.drop P).take r) % 18446744073709551616 ∧ (∀ x ∈ (s.drop P).take r, isDigit x = true) ∧ v < 10 ^ r)) (fun i _ _ => s.length - (intOf i).toNat)
      case atStart => exact ⟨0, 0, by simp, rfl, rfl, by omega, by omega, by omega, show _ ∧ _ ∧ _ from ⟨by simp [val], by simp, by decide⟩⟩
      case round =>
        obtain ⟨r, v, rfl, rfl, rfl, hr, hrs, hv, HR⟩ := hrel
        by_cases hlt : P + r < s.length
        · have hc := str_at hlt
          by_cases hdg : isDigit s[P + r] = true
          · have x48 : 48 ≤ (({ data := s.toArray } : ByteArray)[P + r].toNat : Int) := by rw [hc]; simp [isDigit] at hdg; omega
            have x57 : (({ data := s.toArray } : ByteArray)[P + r].toNat : Int) ≤ 57 := by rw [hc]; simp [isDigit] at hdg; omega
            have hmr := run_more HR.out.1 HR.out.2.1 hlt hdg
            have HM : Hid ((v * 10 + (s[P + r].toNat - 48)) % 18446744073709551616 = val 0 ((s.drop P).take (r + 1)) % 18446744073709551616 ∧ ∀ c ∈ (s.drop P).take (r + 1), isDigit c = true) := hmr
            have HC : Hid (({ data := s.toArray } : ByteArray)[P + r] = s[P + r]) := hc
            clear hmr hc hdg
            by_cases h4 : r = 4
            · have HE : Hid (parseP s = (0, 2)) := by
                refine HNO.out ?_
                have h5 := dg_ge HM.out.2 (by omega)
                rw [HMP.out, if_pos (.inr (.inl (by omega)))]
              subst h4
              clear HM HC HNO HR HMP HV
              go_wp2_with fail
              refine (digit_yes _ _ x48 x57).mono ?_; rintro e w' ⟨rfl, rfl⟩
              go_wp2
              go_ret2
              exact parseEnd_mk (by rw [HE.out]; rfl) (by rw [HE.out])
            · have h3 : r < 4 := by omega
              have hv10 : v * 10 + 10 ≤ 10 ^ (r + 1) := by rw [Nat.pow_succ]; have := HR.out.2.2; omega
              have hv4 : 10 ^ (r + 1) ≤ 10 ^ 4 := Nat.pow_le_pow_right (by omega) (by omega)
              have hv2 : v ≤ 999 := by omega
              have HV10 : Hid (v * 10 + 10 ≤ 10 ^ (r + 1)) := hv10
              clear h4 hv10 hv4
              go_wp2_with fail
              refine (digit_yes _ _ x48 x57).mono ?_; rintro e w' ⟨rfl, rfl⟩
              go_wp2_with fail
              go_round
              case rel =>
                rw [HC.out] at x48 x57 ⊢
                refine ⟨r + 1, v * 10 + (s[P + r].toNat - 48), by go_num, by congr 1; omega, by go_num, by omega, by omega, by omega, show _ ∧ _ ∧ _ from ⟨?_, HM.out.2, by have := HV10.out; omega⟩⟩
                rw [← HM.out.1]; omega
              case measure => simp [intOf]; omega
          · have hee := run_end HR.out.1 HR.out.2.1 hrs (.inr ⟨hlt, by simpa using hdg⟩)
            have HE : Hid (parseP s = (0, 2)) := by
              refine HNO.out ?_
              rw [HMP.out, if_pos (.inr (.inr (.inl (by rw [hee.1]; omega))))]
            have xno : (({ data := s.toArray } : ByteArray)[P + r].toNat : Int) < 48 ∨ 57 < (({ data := s.toArray } : ByteArray)[P + r].toNat : Int) := by rw [hc]; simp [isDigit] at hdg; omega
            clear hee hc hdg HR HMP HV HNO
            go_wp2_with fail
            refine (digit_no _ _ xno).mono ?_; rintro e w' ⟨rfl, rfl⟩
            go_wp2
            go_ret2
            exact parseEnd_mk (by rw [HE.out]; rfl) (by rw [HE.out])
        · obtain ⟨e1, e2⟩ := run_end HR.out.1 HR.out.2.1 hrs (.inl (by omega))
          have hm := HMP.out
          rw [e1, e2] at hm
          by_cases r0 : r = 0
          · have HE : Hid (parseP s = (0, 2)) := HNO.out (by rw [hm, if_pos (.inl r0)])
            subst r0
            clear e1 e2 hm HR HMP HV HNO
            go_wp2
            go_ret2
            exact parseEnd_mk (by rw [HE.out]; rfl) (by rw [HE.out])
          · rw [if_neg (by omega)] at hm
            have br : ((r : Int) == 0) = false := by rw [beq_eq_false_iff_ne]; omega
            cases g
            · have HE : Hid (parseP s = (double.nearest b q (v : Int), 0)) := by
                show _ = _
                rw [HV.out, hm, signedP_some, laidS_nearest]; rfl
              have pk := fun w => pack_int b (S : Int) (q : Int) (v : Int) (v : Int) q false false w (by rw [HS.out]) rfl rfl rfl (by omega) (by omega) (by omega) (fun h => by cases h)
              rw [show Fl.packP b q (v : Int) false = double.nearest b q (v : Int) from packP_f _ _ _] at pk
              generalize double.nearest b q (v : Int) = X at *
              clear e1 e2 hm HR HMP HV HNO HS r0
              go_wp2_with fail
              refine (pk _).mono ?_; rintro e w' ⟨rfl, rfl⟩
              go_wp2
              go_ret2
              exact parseEnd_mk (by rw [HE.out]) (by rw [HE.out])
            · have HE : Hid (parseP s = (double.nearest b q (-(v : Int)), 0)) := by
                show _ = _
                rw [HV.out, hm, signedP_some, laidS_nearest]; rfl
              have pk := fun w => pack_int b (S : Int) (q : Int) (-(v : Int)) (-(v : Int)) q false false w (by rw [HS.out]) rfl rfl rfl (by omega) (by omega) (by omega) (fun h => by cases h)
              rw [show Fl.packP b q (-(v : Int)) false = double.nearest b q (-(v : Int)) from packP_f _ _ _] at pk
              generalize double.nearest b q (-(v : Int)) = X at *
              clear e1 e2 hm HR HMP HV HNO HS r0
              go_wp2_with fail
              refine (pk _).mono ?_; rintro e w' ⟨rfl, rfl⟩
              go_wp2
              go_ret2
              exact parseEnd_mk (by rw [HE.out]) (by rw [HE.out])
    · have HR : Hid (parseP s = (0, 2)) := HNO.out (mag_other HI.out hks (by rw [HQ.out.1]; omega) (by rw [HQ.out.1]; omega) (by rw [HQ.out.1]; exact hlt) (by rw [HQ.out.1]; exact HN.out) (by rw [HQ.out.1, hget]; intro h; exact h112 (Option.some.inj h)))
      have x112 : ((({ data := s.toArray } : ByteArray)[k + j].toNat : Int) != 112) = true := by
        rw [bne_iff_ne, hc]; intro h; exact h112 (UInt8.toNat_inj.1 (by rw [Int.ofNat_inj.1 h]; rfl))
      clear HQ HNO HI HV HS HN hget h112 hc hend hbig
      go_wp2
      go_ret2
      exact parseEnd_mk (by rw [HR.out]; rfl) (by rw [HR.out])
  · have hd1 : k + d < s.length := by omega
    have hmd : magP (s.drop k) = if c = 0 ∨ k + d + 1 + c ≠ s.length ∨ 16 < d + c ∨ 2 ^ 53 < q then none else double.div (double.nearest false q 0) (double.nearest false (10 ^ c) 0) := by
      obtain ⟨q1, q2, q3, q4, q5⟩ := HQ.out
      have := mag_dot HI.out hks (by rw [q1]; exact hd) (by rw [q1]; omega) (by rw [q1]; exact hd1) (by rw [q1]; exact q2)
      rw [q1, q3, q4] at this
      exact this
    by_cases c0 : c = 0
    · have HR : Hid (parseP s = (0, 2)) := HNO.out (by rw [hmd, if_pos (.inl c0)])
      have bd : ((d : Int) == 0) = false := by rw [beq_eq_false_iff_ne]; omega
      subst c0
      clear HQ HNO HI HV HS hmd
      go_wp2
      go_ret2
      exact parseEnd_mk (by rw [HR.out]; rfl) (by rw [HR.out])
    have bdc : ((d : Int) + (c : Int) == 0) = false := by rw [beq_eq_false_iff_ne]; omega
    have bc : ((c : Int) == 0) = false := by rw [beq_eq_false_iff_ne]; omega
    by_cases hbig : 9007199254740992 < q
    · have HR : Hid (parseP s = (0, 2)) := HNO.out (by rw [hmd, if_pos (.inr (.inr (.inr (by omega))))])
      clear HQ HNO HI HV HS hmd
      go_wp2
      go_ret2
      exact parseEnd_mk (by rw [HR.out]; rfl) (by rw [HR.out])
    have hsm : q ≤ 9007199254740992 := by omega
    by_cases hend : k + d + 1 + c = s.length
    · rw [if_neg (by omega)] at hmd
      have hT0 : T ≠ 0 := by rw [HQ.out.2.2.2.2]; exact Nat.ne_of_gt (Nat.pow_pos (by omega))
      rw [← HQ.out.2.2.2.2] at hmd
      obtain ⟨R, hR1, hR2⟩ := Fl.div_some q T (by omega) (by omega) hT0
      rw [hR1] at hmd
      have HR : Hid (parseP s = (laidS b R, 0)) := HV.out.trans (by rw [hmd, signedP_some])
      have hor := or_sg b (x := R) (by omega)
      rw [← HS.out] at hor
      have bl : ((k : Int) + (d : Int) + 1 + (c : Int) == (s.length : Int)) = true := by rw [beq_iff_eq]; omega
      have pk := fun w => pack_int false 0 (q : Int) 0 0 q false false w rfl rfl rfl rfl (by omega) (by omega) (by omega) (fun h => by cases h)
      rw [show Fl.packP false q 0 false = double.nearest false q 0 from packP_f _ _ _] at pk
      have pk2 := fun w => pack_int false 0 (T : Int) 0 0 T false false w rfl rfl rfl rfl (by omega) (by omega) (by omega) (fun h => by cases h)
      rw [show Fl.packP false T 0 false = double.nearest false T 0 from packP_f _ _ _] at pk2
      have l1 := nearest_word false q 0
      have l2 := nearest_word false T 0
      have dv := fun w => div_any (double.nearest false q 0) (double.nearest false T 0) w l1 l2
      rw [show divW (double.nearest false q 0) (double.nearest false T 0) = R from by unfold divW; rw [hR1]; rfl] at dv
      generalize double.nearest false q 0 = X at *
      generalize double.nearest false T 0 = Y at *
      generalize laidS b R = Z at *
      have hX : R < 18446744073709551616 := by omega
      have HEND : Hid (k + d + 1 + c = s.length) := hend
      clear HQ HNO HI HV HS hmd hend hbig hR1 hR2
      go_wp2_with fail
      refine (pk _).mono ?_; rintro e w' ⟨rfl, rfl⟩
      go_wp2_with fail
      refine (pk2 _).mono ?_; rintro e w' ⟨rfl, rfl⟩
      go_wp2_with fail
      refine (dv _).mono ?_; rintro e w' ⟨rfl, rfl⟩
      go_wp2
      go_ret2
      exact parseEnd_mk (by rw [HR.out]) (by rw [HR.out])
    · have HR : Hid (parseP s = (0, 2)) := HNO.out (by rw [hmd, if_pos (.inr (.inl hend))])
      have hlt : k + d + 1 + c < s.length := by omega
      have bl : ((k : Int) + (d : Int) + 1 + (c : Int) == (s.length : Int)) = false := by rw [beq_eq_false_iff_ne]; omega
      clear HQ HNO HI HV HS hmd hend hbig
      by_cases x112 : (({ data := s.toArray } : ByteArray)[k + d + 1 + c].toNat : Int) = 112
      · go_wp2
        go_ret2
        exact parseEnd_mk (by rw [HR.out]; rfl) (by rw [HR.out])
      · have x112 : ((({ data := s.toArray } : ByteArray)[k + d + 1 + c].toNat : Int) != 112) = true := by rw [bne_iff_ne]; exact x112
        go_wp2
        go_ret2
        exact parseEnd_mk (by rw [HR.out]; rfl) (by rw [HR.out])
end Go.Proofs.Qxb6500290a
