import Derived.Test.Qxb6500290aW3
import Derived.Test.Qxb6500290aW4
import Derived.Test.Qxb6500290aLw2
namespace Go.Proofs.Qxb6500290a
open Go.RowKit
open Ieee (double)
attribute [local go_sem] run_frombits run_tobits run_negf

/-- A sound Num. -/
def NumW (n b : Nat) (w : World) : Prop := NumAt n b w ∧ n ≠ b ∧ ∃ bs, BB 5 b bs w ∧ bs.length = 24
theorem NumW.step {n b : Nat} {w w' : World} (h : NumW n b w) (hs : Stp b w w') (hb : ∃ bs', BB 5 b bs' w' ∧ bs'.length = 24) : NumW n b w' := by
  obtain ⟨h1, h2, _⟩ := h
  refine ⟨?_, h2, hb⟩
  unfold NumAt at *
  rw [hs.block n (Array.getElem?_eq_some_iff.1 h1).1 h2]; exact h1
theorem NumW.below {n b : Nat} {w w' : World} (h : NumW n b w) (hb : Below w.heap.size w w') : NumW n b w' := by
  obtain ⟨h1, h2, bs, h3, h4⟩ := h
  refine ⟨?_, h2, bs, ?_, h4⟩
  · unfold NumAt at *
    rw [hb.block n (Array.getElem?_eq_some_iff.1 h1).1]; exact h1
  · have := h3.lt
    unfold BB at *
    rw [hb.block b this]; exact h3

/-- Format, over a sound Num. -/
theorem format_num (n b : Nat) (x : Nat) (w : World) (hn : NumW n b w) (hx : x < 18446744073709551616) :
    Calls Try.prog 42 #[.pointer (some ⟨n, 0, none⟩), .int .u64 x] w fun e w' => e = .returned (.string ⟨(fmtP x).toArray⟩) ∧ Stp b w w' ∧ NumW n b w' := by
  obtain ⟨h1, h2, bs, h3, h4⟩ := hn
  refine (format_any n b bs x w h1 h3 h4 hx).mono ?_
  rintro e w' ⟨rfl, h5, h6⟩
  exact ⟨rfl, h6, NumW.step ⟨h1, h2, bs, h3, h4⟩ h6 h5⟩

/-- What a law's step leaves. -/
def Kp (n b : Nat) (w : World) (e : Ending) (w' : World) : Prop := e = .returned (.bool true) ∧ Stp b w w' ∧ NumW n b w'
theorem kp_mk {n b : Nat} {w w' : World} {t : Bool} (ht : t = true) (h1 : Stp b w w') (h2 : NumW n b w') : Kp n b w (.returned (.bool t)) w' := ⟨by rw [ht], h1, h2⟩

set_option maxHeartbeats 400000 in
theorem keptText_any (n b : Nat) (x : Nat) (w : World) (hn : NumW n b w) (hx : x < 18446744073709551616) :
    Calls Try.prog 26 #[.pointer (some ⟨n, 0, none⟩), .int .u64 x] w (Kp n b w) := by
  obtain ⟨hp, hl⟩ := parse_format x hx
  have HL : Hid ((fmtP x).length ≤ 24) := hl
  have e1 := andNot_sign x hx
  obtain ⟨r, hr⟩ : ∃ r, r = x % 2 ^ 63 := ⟨_, rfl⟩
  rw [← hr] at e1 hp
  clear hr
  by_cases hnan : 2047 * 2 ^ 52 < r
  · rw [if_pos hnan] at hp
    have HP : Hid (parseP (fmtP x) = (nanW, 0)) := hp
    have hgt : 9218868437227405312 < r := by omega
    clear hp
    go_enter Try.func26, Try.ntmps26
    go_wp2_with (first | (go_at_call 42; refine (format_num n b x _ hn hx).mono ?_; rintro e w1 ⟨rfl, hs1, hn1⟩) | (go_at_call 43; refine (parse_any _ (fmtP x) _ (by have := HL.out; omega)).mono ?_; rintro e w2 ⟨rfl, rfl⟩; rw [HP.out]))
    go_ret
    exact kp_mk (by decide +kernel) hs1 hn1
  · rw [if_neg hnan] at hp
    have HP : Hid (parseP (fmtP x) = (x, 0)) := hp
    have hgt : r ≤ 9218868437227405312 := by omega
    clear hp
    go_enter Try.func26, Try.ntmps26
    go_wp2_with (first | (go_at_call 42; refine (format_num n b x _ hn hx).mono ?_; rintro e w1 ⟨rfl, hs1, hn1⟩) | (go_at_call 43; refine (parse_any _ (fmtP x) _ (by have := HL.out; omega)).mono ?_; rintro e w2 ⟨rfl, rfl⟩; rw [HP.out]))
    go_ret
    exact kp_mk (by simp) hs1 hn1

set_option maxHeartbeats 400000 in
theorem keptDecimal_any (n b : Nat) (i : Int) (w : World) (hn : NumW n b w) (h1 : -9223372036854775808 ≤ i) (h2 : i ≤ 9223372036854775807) :
    Calls Try.prog 27 #[.pointer (some ⟨n, 0, none⟩), .int .i64 i] w (Kp n b w) := by
  by_cases c1 : i ≤ -9007199254740992
  · go_enter Try.func27, Try.ntmps27
    go_wp2
    go_ret
    exact kp_mk rfl (Stp.refl _ _) hn
  by_cases c2 : 9007199254740992 ≤ i
  · go_enter Try.func27, Try.ntmps27
    go_wp2
    go_ret
    exact kp_mk rfl (Stp.refl _ _) hn
  have hf : Hid (fmtP (double.nearest (decide (i < 0)) i.natAbs 0) = itoaL i) := format_int i (by omega) (by omega)
  have hlt := Ieee.Format.nearest_lt double (decide (i < 0)) i.natAbs 0
  have hx : double.nearest (decide (i < 0)) i.natAbs 0 < 18446744073709551616 := hlt
  clear hlt
  obtain ⟨u, hu⟩ : ∃ u, u = double.nearest (decide (i < 0)) i.natAbs 0 := ⟨_, rfl⟩
  have hfr := fun w => fromInt_any (.pointer (some ⟨n, 0, none⟩)) i w
  rw [← hu] at hf hx hfr
  clear hu
  go_enter Try.func27, Try.ntmps27
  go_wp2_with (first | (go_at_call 18; refine (hfr _).mono ?_; rintro e w0 ⟨rfl, rfl⟩) | (go_at_call 42; refine (format_num n b u _ hn hx).mono ?_; rintro e w1 ⟨rfl, hs1, hn1⟩; rw [hf.out]) | (go_at_call 51; refine (itoa_any i _ h1 h2).mono ?_; rintro e w2 ⟨rfl, hb2⟩))
  go_ret
  exact kp_mk (by simp) (hs1.trans (Stp.of_below hb2)) (hn1.below hb2)

set_option maxHeartbeats 400000 in
theorem sound_any (v : Nat) (w : World) (hv : v < 18446744073709551616) (h : v % 2 ^ 63 ≤ 2047 * 2 ^ 52 ∨ v = nanW) :
    Calls Try.prog 31 #[.int .u64 v] w fun e w' => e = .returned (.bool true) ∧ w' = w := by
  have e1 := andNot_sign v hv
  obtain ⟨r, hr⟩ : ∃ r, r = v % 2 ^ 63 := ⟨_, rfl⟩
  rw [← hr] at e1 h
  rcases h with h | h
  · have hle : r ≤ 9218868437227405312 := h
    clear hr h
    go_enter Try.func31, Try.ntmps31
    go_wp2
    go_ret
    exact ⟨rfl, rfl⟩
  · subst h
    have hr2 : 9218868437227405312 < r := by rw [hr]; decide
    have e2 : ((nanW : Int) == 9221120237041090561) = true := by decide +kernel
    clear hr
    go_enter Try.func31, Try.ntmps31
    go_wp2
    go_ret
    exact ⟨rfl, rfl⟩

theorem cnt_take {s : List UInt8} {k : Nat} (h1 : ∀ c ∈ s.take k, (c != 112) = true) (h2 : s.drop k = [] ∨ ∃ r, s.drop k = 112 :: r) : cnt s = ((s.take k).filter isDigit).length := by
  unfold cnt
  have := List.takeWhile_append_of_pos (p := fun c => c != 112) (l₁ := s.take k) (l₂ := s.drop k) h1
  rw [List.take_append_drop] at this
  rw [this]
  rcases h2 with h2 | ⟨r, h2⟩
  · rw [h2]; simp
  · rw [h2, List.takeWhile_cons_of_neg (by decide)]; simp

set_option maxHeartbeats 800000 in
theorem keptParse_any (p : Value) (s : List UInt8) (w : World) (hl : s.length ≤ 9223372036854775807) :
    Calls Try.prog 28 #[p, .string ⟨s.toArray⟩] w fun e w' => e = .returned (.bool true) ∧ w' = w := by
  by_cases h1 : 24 < s.length
  · have HP : Hid (parseP s = (0, 1)) := by show _ = _; unfold parseP; rw [if_pos h1]
    go_enter Try.func28, Try.ntmps28
    go_wp2_with (go_at_call 43; refine (parse_any _ s _ hl).mono ?_; rintro e w2 ⟨rfl, rfl⟩; rw [HP.out])
    go_ret
    exact ⟨rfl, rfl⟩
  · have hl2 : s.length ≤ 24 := by omega
    have hps := fun p w => parse_any p s w hl
    unfold ParseEnd at hps
    rcases parse_shape s hl2 with ⟨g1, g2⟩ | ⟨g1, g2, g3, g4⟩
    · rw [g1, g2] at hps
      clear g1 g2
      go_enter Try.func28, Try.ntmps28
      go_wp2_with (go_at_call 43; refine (hps _ _).mono ?_; rintro e w2 ⟨rfl, rfl⟩)
      go_ret
      exact ⟨rfl, rfl⟩
    · obtain ⟨v, hv⟩ : ∃ v, v = (parseP s).1 := ⟨_, rfl⟩
      rw [g1, ← hv] at hps
      rw [← hv] at g3 g4
      clear hv g1
      have G2 : Hid (cnt s ≤ 16) := g2
      have G4 := fun w => sound_any v w g3 g4
      clear g2 g4
      go_enter Try.func28, Try.ntmps28
      go_wp2_with (go_at_call 43; refine (hps _ _).mono ?_; rintro e w2 ⟨rfl, rfl⟩)
      go_loop [7, 8] (fun d i => ∃ k q : Nat, i = .int .i64 (k : Int) ∧ d = .int .i64 (q : Int) ∧ k ≤ s.length ∧ q ≤ k ∧ Hid (q = ((s.take k).filter isDigit).length ∧ ∀ c ∈ s.take k, (c != 112) = true)) (fun _ i => s.length - (intOf i).toNat)
      case atStart => exact ⟨0, 0, rfl, rfl, by omega, by omega, by simp, by simp⟩
      case round =>
        obtain ⟨k, q, rfl, rfl, hk, hqk, HQ⟩ := hrel
        by_cases hlt : k < s.length
        · have hc := str_at hlt
          have hdr : s.drop k = s[k] :: s.drop (k + 1) := List.drop_eq_getElem_cons hlt
          have htk : s.take (k + 1) = s.take k ++ [s[k]] := by rw [List.take_succ_eq_append_getElem hlt]
          have HC : Hid (({ data := s.toArray } : ByteArray)[k] = s[k] ∧ s.drop k = s[k] :: s.drop (k + 1) ∧ s.take (k + 1) = s.take k ++ [s[k]]) := ⟨hc, hdr, htk⟩
          clear hc hdr htk
          by_cases hp : s[k] = 112
          · have hat : (({ data := s.toArray } : ByteArray)[k].toNat : Int) = 112 := by rw [HC.out.1, hp]; rfl
            have hq16 : q ≤ 16 := by
              have := cnt_take HQ.out.2 (.inr ⟨_, by rw [HC.out.2.1, hp]⟩)
              rw [← HQ.out.1] at this
              have := G2.out
              omega
            clear hp HC HQ
            go_wp2_with (go_at_call 31; refine (G4 _).mono ?_; rintro e w2 ⟨rfl, rfl⟩)
            go_ret
            exact ⟨rfl, rfl⟩
          · have hat : (({ data := s.toArray } : ByteArray)[k].toNat : Int) ≠ 112 := by
              rw [HC.out.1]; intro h; exact hp (UInt8.toNat_inj.1 (by simpa using Int.ofNat_inj.1 h))
            have hbn : ((({ data := s.toArray } : ByteArray)[k].toNat : Int) != 112) = true := by rw [bne_iff_ne]; exact hat
            have HN : Hid ((s[k] != 112) = true) := by rw [bne_iff_ne]; exact hp
            clear hat hp
            by_cases hd : isDigit s[k] = true
            · have h48 : 48 ≤ (({ data := s.toArray } : ByteArray)[k].toNat : Int) := by
                rw [HC.out.1]; simp [isDigit] at hd; omega
              have h57 : (({ data := s.toArray } : ByteArray)[k].toNat : Int) ≤ 57 := by
                rw [HC.out.1]; simp [isDigit] at hd; omega
              have HD : Hid (isDigit s[k] = true) := hd
              clear hd
              go_wp2
              go_round
              case rel =>
                obtain ⟨a1, a2, a3⟩ := HC.out
                refine ⟨k + 1, q + 1, by go_num, by go_num, by omega, by omega, ?_, ?_⟩
                · rw [a3, List.filter_append, List.length_append, ← HQ.out.1, List.filter_cons_of_pos HD.out]; rfl
                · rw [a3]
                  intro c hc
                  rcases List.mem_append.1 hc with h | h
                  · exact HQ.out.2 c h
                  · rw [List.mem_singleton.1 h]; exact HN.out
              case measure => simp [intOf]; omega
            · have hnd : (({ data := s.toArray } : ByteArray)[k].toNat : Int) < 48 ∨ 57 < (({ data := s.toArray } : ByteArray)[k].toNat : Int) := by
                rw [HC.out.1]
                simp [isDigit] at hd; omega
              have HD : Hid (isDigit s[k] = false) := by show _ = _; simpa using hd
              clear hd
              rcases hnd with hnd | hnd
              all_goals
                go_wp2
                go_round
                case rel =>
                  obtain ⟨a1, a2, a3⟩ := HC.out
                  refine ⟨k + 1, q, by go_num, by go_num, by omega, by omega, ?_, ?_⟩
                  · rw [a3, List.filter_append, List.length_append, ← HQ.out.1, List.filter_cons_of_neg (by simp [HD.out])]; rfl
                  · rw [a3]
                    intro c hc
                    rcases List.mem_append.1 hc with h | h
                    · exact HQ.out.2 c h
                    · rw [List.mem_singleton.1 h]; exact HN.out
                case measure => simp [intOf]; omega
        · have hq16 : q ≤ 16 := by
            have := cnt_take HQ.out.2 (.inl (by simp; omega))
            rw [← HQ.out.1] at this
            have := G2.out
            omega
          clear HQ
          go_wp2_with (go_at_call 31; refine (G4 _).mono ?_; rintro e w2 ⟨rfl, rfl⟩)
          go_ret
          exact ⟨rfl, rfl⟩
end Go.Proofs.Qxb6500290a
