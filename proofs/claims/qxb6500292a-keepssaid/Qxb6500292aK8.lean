import Derived.Test.Qxb6500292aK7
namespace Go.Proofs.Qxb6500292a
open Go.RowKit
open Ieee (double)
set_option linter.unusedVariables false
set_option linter.unusedSimpArgs false

theorem plc_dec (at' : Option Nat) : decide (plc at' < 0) = decide (at' = none) := by
  cases at' with
  | none => rfl
  | some i => exact decide_eq_false (show ¬ ((i : Int) < 0) by omega)
theorem plc_dec2 (at' : Option Nat) : decide (0 ≤ plc at') = !decide (at' = none) := by
  cases at' with
  | none => rfl
  | some i => simp [plc]
set_option maxRecDepth 8000 in
set_option maxHeartbeats 3200000 in
theorem owes_high (g : Nat) (st : List Tbl) (gs : Gs) (ad : Option Addr) (cp : Nat) (K B C : Int) (A : Nat) (S T : List UInt8) (k v : V) (at' : Option Nat) (w : World) (H : GRow w g st gs ad cp) (hm : st.length ≤ 12) (hG : GoodSt st) (hk : k.Ok) (hv : v.Ok) (hK : 6 ≤ K ∧ K ≤ 10) (hA : A < st.length) :
    Calls Try.prog 19 #[.pointer (some ⟨g, 0, none⟩), opV K A B C S T, valV k, valV v, .int .i64 (plc at')] w fun e w' => e = .returned (.int .i64 (owesP st K A k v at')) ∧ Below w.heap.size w w' := by
  have HB : Hid (Below w.heap.size w (owW w K A B C S T k v)) := owW_below w K A B C S T k v
  have hne : ¬ g = w.heap.size := by have := H.lg; omega
  have HR : Hid (GRow w g st gs ad cp) := H
  obtain ⟨c0, _, _, _, _⟩ := H.below HB.out
  have c0w := H.c0
  have hob := OwB.new w K A B C S T k v
  obtain ⟨o0, o1, _, _⟩ := id hob
  obtain ⟨t, ht, hgd⟩ := st_at hA
  obtain ⟨a, hinv⟩ := hG.at ht
  have hl32 := hinv.len
  have HWk := fun w => wf_any k w hk
  have HWv := fun w => wf_any v w hv
  have HV : owesP st K A k v at' = if K = 10 then 0 else if wfB k = false then 4 else if K ≠ 7 ∧ K ≠ 6 ∧ k.T ≠ 0 ∧ at' = none then 7 else if K ≠ 7 then 0 else if wfB v = false then 4 else if k.T = 0 then 5 else if k.T = 2 ∧ 2047 * 2 ^ 52 < k.N % 2 ^ 63 then 6 else if at' = none ∧ v.T ≠ 0 ∧ 32 ≤ t.length then 8 else 0 := by
    unfold owesP
    rw [if_neg (by omega), if_neg (by omega), if_neg (by omega), Int.toNat_natCast, hgd]
  have hand := uand_63 k.N hk.N
  have p1 := plc_dec at'
  have p2 := plc_dec2 at'
  have cA := fun W (hb : Below w.heap.size w W) => (H.below hb).ch A (by omega)
  rw [hgd] at cA
  have hs0 : w.heap.size < (owW w K A B C S T k v).heap.size := by simp; omega
  have HOB : Hid (∀ w1, Below (owW w K A B C S T k v).heap.size (owW w K A B C S T k v) w1 → Below w.heap.size w w1 ∧ OwB w w1 K A k v ∧ w.heap.size < w1.heap.size) := fun w1 hb => ⟨below_two HB.out hb, hob.below hs0 hb, by have := hb.size; omega⟩
  have HCA : Hid (∀ W, Below w.heap.size w W → W.cell? ⟨g, 1 + A, none⟩ = some (.int .i64 (t.length : Int)) ∧ W.cell? ⟨g, 0, none⟩ = some (.int .i64 (st.length : Int))) := fun W hb => ⟨cA W hb, (H.below hb).c0⟩
  have dA : decide ((A : Int) < 0) = false := decide_eq_false (by omega)
  have dB : decide ((st.length : Int) ≤ (A : Int)) = false := decide_eq_false (by omega)
  have dB2 : decide (st.length ≤ A) = false := decide_eq_false (by omega)
  have hA12 : A < 12 := by omega
  generalize plc at' = pa at *
  generalize hnn : decide (at' = none) = an at *
  have HAN : Hid (decide (at' = none) = an) := hnn
  obtain ⟨kT, kN, kS⟩ := k
  obtain ⟨vT, vN, vS⟩ := v
  rw [opV_mk, valV_mk, valV_mk]
  simp only [valV_mk] at HWk HWv
  simp only at HV hand
  generalize wfB ⟨kT, kN, kS⟩ = wk at *
  generalize wfB ⟨vT, vN, vS⟩ = wv at *
  generalize st.length = sl at *
  generalize t.length = tl at *
  clear H hG hk hv hinv ht hgd hob hs0 cA hnn
  have d3 : (K == 3) = false := by rw [beq_eq_false_iff_ne]; omega
  have d6 : decide (K < 6) = false := decide_eq_false (by omega)
  have d10 : decide (10 < K) = false := decide_eq_false (by omega)
  go_enter Try.func19, Try.ntmps19
  go_wp2_with fail
  go_quiet (fail)
  go_wp2_with fail
  refine (HWk _).mono ?_; rintro e w1 ⟨rfl, hb1⟩
  obtain ⟨hB1, hO1, hl1⟩ := HOB.out w1 (below_two (below_drewN (Below.refl _ _) nq) hb1)
  obtain ⟨f0, f1, f2, _⟩ := hO1.vb.cells
  simp only at f0 f1 f2
  have HB1 : Hid (Below w.heap.size w w1 ∧ OwB w w1 K A ⟨kT, kN, kS⟩ ⟨vT, vN, vS⟩ ∧ w.heap.size < w1.heap.size) := ⟨hB1, hO1, hl1⟩
  clear hb1 hB1 hO1 o0 o1 c0 c0w
  go_wp2_with fail
  refine (HWv _).mono ?_; rintro e w2 ⟨rfl, hb2⟩
  have hO2 := HB1.out.2.1.below HB1.out.2.2 hb2
  have HB2 : Hid (Below w.heap.size w w2) := below_two HB1.out.1 hb2
  obtain ⟨o0, o1, hkb, hvb⟩ := hO2
  obtain ⟨k0, k1, k2, _⟩ := hkb.cells
  obtain ⟨v0, v1, v2, _⟩ := hvb.cells
  obtain ⟨cA, c0⟩ := HCA.out w2 HB2.out
  simp only at k0 k1 k2 v0 v1 v2
  clear hb2 f0 f1 f2 HB1 HOB HB HWk HWv hkb hvb HCA
  rcases (show K = 10 ∨ K = 6 ∨ (K = 8 ∨ K = 9) ∨ K = 7 by omega) with rfl | rfl | hK89 | rfl
  · have HV2 : Hid (owesP st 10 A ⟨kT, kN, kS⟩ ⟨vT, vN, vS⟩ at' = 0) := by show _ = _; rw [HV, if_pos rfl]
    clear HV
    go_wp2
    go_ret
    exact ⟨by rw [HV2.out]; rfl, HB2.out⟩
  · cases wk
    · have HV2 : Hid (owesP st 6 A ⟨kT, kN, kS⟩ ⟨vT, vN, vS⟩ at' = 4) := by show _ = _; rw [HV]; simp
      clear HV
      go_wp2
      go_ret
      exact ⟨by rw [HV2.out]; rfl, HB2.out⟩
    · have HV2 : Hid (owesP st 6 A ⟨kT, kN, kS⟩ ⟨vT, vN, vS⟩ at' = 0) := by show _ = _; rw [HV]; simp
      clear HV
      go_wp2
      go_ret
      exact ⟨by rw [HV2.out]; rfl, HB2.out⟩
  · have q10 : (K == 10) = false := by rw [beq_eq_false_iff_ne]; omega
    have q7 : (K != 7) = true := by rw [bne_iff_ne]; omega
    have q6 : (K != 6) = true := by rw [bne_iff_ne]; omega
    cases wk
    · have HV2 : Hid (owesP st K A ⟨kT, kN, kS⟩ ⟨vT, vN, vS⟩ at' = 4) := by show _ = _; rw [HV, if_neg (by omega), if_pos rfl]
      clear HV
      go_wp2
      go_ret
      exact ⟨by rw [HV2.out]; rfl, HB2.out⟩
    · by_cases hT : kT = 0
      · subst hT
        have HV2 : Hid (owesP st K A ⟨0, kN, kS⟩ ⟨vT, vN, vS⟩ at' = 0) := by show _ = _; rw [HV, if_neg (by omega), if_neg (by simp), if_neg (by simp), if_pos (by omega)]
        clear HV
        go_wp2
        go_ret
        exact ⟨by rw [HV2.out]; rfl, HB2.out⟩
      · have bT : (kT != 0) = true := by simpa using hT
        cases an
        · have hno : at' ≠ none := of_decide_eq_false HAN.out
          have HV2 : Hid (owesP st K A ⟨kT, kN, kS⟩ ⟨vT, vN, vS⟩ at' = 0) := by show _ = _; rw [HV, if_neg (by omega), if_neg (by simp), if_neg (fun h => hno h.2.2.2), if_pos (by omega)]
          clear HV hT hno
          go_wp2
          go_ret
          exact ⟨by rw [HV2.out]; rfl, HB2.out⟩
        · have hno : at' = none := of_decide_eq_true HAN.out
          have HV2 : Hid (owesP st K A ⟨kT, kN, kS⟩ ⟨vT, vN, vS⟩ at' = 7) := by show _ = _; rw [HV, if_neg (by omega), if_neg (by simp), if_pos ⟨by omega, by omega, hT, hno⟩]
          clear HV hT hno
          go_wp2
          go_ret
          exact ⟨by rw [HV2.out]; rfl, HB2.out⟩
  · cases wk
    · have HV2 : Hid (owesP st 7 A ⟨kT, kN, kS⟩ ⟨vT, vN, vS⟩ at' = 4) := by show _ = _; rw [HV]; simp
      clear HV
      go_wp2
      go_ret
      exact ⟨by rw [HV2.out]; rfl, HB2.out⟩
    · rw [if_neg (by omega), if_neg (by simp), if_neg (by simp), if_neg (by simp)] at HV
      cases wv
      · have HV2 : Hid (owesP st 7 A ⟨kT, kN, kS⟩ ⟨vT, vN, vS⟩ at' = 4) := by show _ = _; rw [HV]; simp
        clear HV
        go_wp2
        go_ret
        exact ⟨by rw [HV2.out]; rfl, HB2.out⟩
      · rw [if_neg (by simp)] at HV
        by_cases hT : kT = 0
        · subst hT
          have HV2 : Hid (owesP st 7 A ⟨0, kN, kS⟩ ⟨vT, vN, vS⟩ at' = 5) := by show _ = _; rw [HV]; simp
          clear HV
          go_wp2
          go_ret
          exact ⟨by rw [HV2.out]; rfl, HB2.out⟩
        · have bT : (kT == 0) = false := by simpa using hT
          rw [if_neg hT] at HV
          obtain ⟨M, hM⟩ : ∃ M, M = kN % 9223372036854775808 := ⟨_, rfl⟩
          rw [← hM] at hand
          have hnn : (kT = 2 ∧ 2047 * 2 ^ 52 < kN % 2 ^ 63) ↔ (kT = 2 ∧ 9218868437227405312 < M) := by rw [hM]
          have hcs : (kT = 2 ∧ 9218868437227405312 < M) ∨ (¬ (kT = 2 ∧ 9218868437227405312 < M) ∧ ((kT = 2 ∧ ¬ 9218868437227405312 < M) ∨ kT ≠ 2)) := by omega
          clear hM
          rcases hcs with ⟨h2, hgt⟩ | ⟨hno, hcs⟩
          · have HV2 : Hid (owesP st 7 A ⟨kT, kN, kS⟩ ⟨vT, vN, vS⟩ at' = 6) := by show _ = _; rw [HV, if_pos (hnn.2 ⟨h2, hgt⟩)]
            have dg : decide ((9218868437227405312 : Int) < (M : Int)) = true := decide_eq_true (by omega)
            have dg2 : decide (9218868437227405312 < M) = true := decide_eq_true hgt
            subst h2
            clear HV hnn hgt
            go_wp2
            go_ret
            exact ⟨by rw [HV2.out]; rfl, HB2.out⟩
          · rw [if_neg (fun h => hno (hnn.1 h))] at HV
            have HVV : Hid (owesP st 7 A ⟨kT, kN, kS⟩ ⟨vT, vN, vS⟩ at' = if at' = none ∧ vT ≠ 0 ∧ 32 ≤ tl then 8 else 0) := HV
            have hend : (an = false) ∨ (an = true ∧ vT = 0) ∨ (an = true ∧ vT ≠ 0 ∧ 32 ≤ tl) ∨ (an = true ∧ vT ≠ 0 ∧ ¬ 32 ≤ tl) := by
              cases an
              · exact .inl rfl
              · by_cases z : vT = 0
                · exact .inr (.inl ⟨rfl, z⟩)
                · by_cases f : 32 ≤ tl
                  · exact .inr (.inr (.inl ⟨rfl, z, f⟩))
                  · exact .inr (.inr (.inr ⟨rfl, z, f⟩))
            clear HV hnn hno
            have hsplit : ∃ r : Int, (∃ b1 b2 : Bool, decide (vT = 0) = b1 ∧ decide (32 ≤ tl) = b2 ∧ r = if (an && !b1 && b2) = true then 8 else 0) ∧ owesP st 7 A ⟨kT, kN, kS⟩ ⟨vT, vN, vS⟩ at' = r := by
              refine ⟨_, ⟨_, _, rfl, rfl, rfl⟩, ?_⟩
              rw [HVV.out, ← HAN.out]
              by_cases q1 : at' = none
              · by_cases q2 : vT = 0
                · simp [q1, q2]
                · by_cases q3 : 32 ≤ tl <;> simp [q1, q2, q3]
              · simp [q1]
            obtain ⟨r, ⟨z1, z2, hz1, hz2, hr⟩, hres⟩ := hsplit
            have HRES : Hid (owesP st 7 A ⟨kT, kN, kS⟩ ⟨vT, vN, vS⟩ at' = r) := hres
            have bz : (vT != 0) = !z1 := by rw [← hz1]; by_cases q : vT = 0 <;> simp [q]
            have bf : decide ((32 : Int) ≤ (tl : Int)) = z2 := by rw [← hz2]; exact decide_eq_decide.2 (by omega)
            clear hend hres HVV hz1 hT
            rcases hcs with ⟨h2, hle⟩ | h2
            · have dg : decide ((9218868437227405312 : Int) < (M : Int)) = false := decide_eq_false (by omega)
              have dg2 : decide (9218868437227405312 < M) = false := decide_eq_false hle
              subst h2
              clear hle
              cases an <;> cases z1 <;> cases z2 <;> simp only [Bool.not_false, Bool.not_true] at bz p2
              all_goals
                go_wp2
                go_quiet (fail)
                go_wp2
                go_ret
                exact ⟨by rw [HRES.out, hr]; rfl, below_drewN HB2.out _⟩
            · have b2 : (kT == 2) = false := by simpa using h2
              clear h2
              cases an <;> cases z1 <;> cases z2 <;> simp only [Bool.not_false, Bool.not_true] at bz p2
              all_goals
                go_wp2
                go_quiet (fail)
                go_wp2
                go_ret
                exact ⟨by rw [HRES.out, hr]; rfl, below_drewN HB2.out _⟩
/-- **Owes.** -/
theorem owes_any (g : Nat) (st : List Tbl) (gs : Gs) (ad : Option Addr) (cp : Nat) (K A B C : Int) (S T : List UInt8) (k v : V) (at' : Option Nat) (w : World) (H : GRow w g st gs ad cp) (hm : st.length ≤ 12) (hG : GoodSt st) (hk : k.Ok) (hv : v.Ok) :
    Calls Try.prog 19 #[.pointer (some ⟨g, 0, none⟩), opV K A B C S T, valV k, valV v, .int .i64 (plc at')] w fun e w' => e = .returned (.int .i64 (owesP st K A k v at')) ∧ Below w.heap.size w w' := by
  by_cases hb : (K < 6 ∨ 10 < K) ∨ (A < 0 ∨ (st.length : Int) ≤ A)
  · exact owes_low g st gs ad cp K A B C S T k v _ at' w H hm hb
  · obtain ⟨a, rfl⟩ : ∃ a : Nat, A = (a : Int) := ⟨A.toNat, by omega⟩
    exact owes_high g st gs ad cp K B C a S T k v at' w H hm hG hk hv (by omega) (by omega)
end Go.Proofs.Qxb6500292a
