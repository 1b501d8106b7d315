import Derived.Test.Qxb6500293aGreatRRT15
namespace Go.Proofs.Qxb6500293aGreatRR
open Go.RowKit
open Ieee (double)
set_option linter.unusedVariables false
set_option linter.unusedSimpArgs false

/-- What Set answers and leaves. -/
def SetEnd (own : Nat → Nat) (w : World) (x : Nat) (reps : List TabR) (count : Nat) (o : List Tbl × Int) (e : Ending) (w' : World) : Prop :=
  e = .returned (.int .i64 o.2) ∧ ∃ own' reps', (∀ k, k < w.heap.size → own' k = own k) ∧ RealAt own' w' x reps' count ∧ stOf reps' count = o.1 ∧ Chg own w w'
theorem setEnd_same {own : Nat → Nat} {w w' : World} {x : Nat} {reps : List TabR} {count : Nat} {o : List Tbl × Int} {i : Int} (H : RealAt own w x reps count) (h1 : o = (stOf reps count, i)) (hb : Below w.heap.size w w') : SetEnd own w x reps count o (.returned (.int .i64 i)) w' :=
  ⟨by rw [h1], own, reps, fun _ _ => rfl, H.below hb, by rw [h1], Chg.of_below hb⟩

theorem setEnd_mk {own : Nat → Nat} {w w' : World} {x : Nat} {reps : List TabR} {count : Nat} {o : List Tbl × Int} {i : Int} (h1 : o.2 = i) (own' : Nat → Nat) (reps' : List TabR) (ho : ∀ k, k < w.heap.size → own' k = own k) (hR : RealAt own' w' x reps' count) (hs : stOf reps' count = o.1) (hC : Chg own w w') : SetEnd own w x reps count o (.returned (.int .i64 i)) w' :=
  ⟨by rw [h1], own', reps', ho, hR, hs, hC⟩
set_option maxRecDepth 8000 in
set_option maxHeartbeats 3200000 in
/-- The ways that end in an error ahead of the look-up. -/
theorem set_errs (own : Nat → Nat) (x : Nat) (reps : List TabR) (count : Nat) (h : Int) (k v : V) (w : World) (H : RealAt own w x reps count) (hk : k.Ok) (hv : v.Ok)
    (hE : (h < 0 ∨ (count : Int) ≤ h) ∨ wfB k = false ∨ wfB v = false ∨ k.T = 0) :
    Calls Tryz.prog 56 #[.pointer (some ⟨x, 0, none⟩), .int .i64 h, valV k, valV v] w (SetEnd own w x reps count (setP (stOf reps count) h k v)) := by
  obtain ⟨nb, vt, ht, hrow, hvc⟩ := H.tabs
  obtain ⟨c0, c1, c2, fz, lt⟩ := id ht
  have hne : ¬ x = w.heap.size := by omega
  have hne2 : ¬ x = w.heap.size + 1 := by omega
  have hcl : count ≤ 12 := by have := H.cnt; have := H.max; omega
  have hsl := stOf_len H.cnt
  have HH : Hid (RealAt own w x reps count) := H
  have W1 := fun w => wf_any k w hk
  have W2 := fun w => wf_any v w hv
  by_cases hr : h < 0 ∨ (count : Int) ≤ h
  · have HV : Hid (setP (stOf reps count) h k v = (stOf reps count, 3)) := by show _ = _; unfold setP; rw [hsl, if_pos hr]
    obtain ⟨T, N, S⟩ := k
    obtain ⟨T', N', S'⟩ := v
    simp only [valV_mk]
    clear H hrow hvc ht W1 W2 hE
    have hr : h < 0 ∨ (0 ≤ h ∧ (count : Int) ≤ h) := by omega
    rcases hr with hr | ⟨hr0, hr⟩
    all_goals
      go_enter Tryz.func56, Tryz.ntmps56
      go_wp2
      go_ret
      exact setEnd_same HH.out HV.out ((below_one _ _).alloc (by simp) _)
  have hr0 : 0 ≤ h := by omega
  have hr1 : h < (count : Int) := by omega
  by_cases hw : wfB k = false ∨ wfB v = false
  · have HV : Hid (setP (stOf reps count) h k v = (stOf reps count, 4)) := by show _ = _; unfold setP; rw [hsl, if_neg hr, if_pos hw]
    have hw2 : (wfB k = false) ∨ (wfB k = true ∧ wfB v = false) := by
      cases hh : wfB k
      · exact .inl rfl
      · rw [hh] at hw; exact .inr ⟨rfl, hw.resolve_left (by decide)⟩
    generalize wfB k = bk at *
    generalize wfB v = bv at *
    obtain ⟨T, N, S⟩ := k
    obtain ⟨T', N', S'⟩ := v
    simp only [valV_mk] at *
    clear H hrow hvc ht hE hw hr fz
    rcases hw2 with rfl | ⟨rfl, rfl⟩
    all_goals
      go_enter Tryz.func56, Tryz.ntmps56
      go_wp2_with fail
      refine (W1 _).mono ?_; rintro e w1 ⟨rfl, hb⟩
      obtain ⟨v0, v1, hB⟩ := two_vals (k := ⟨T, N, S⟩) (z := ⟨T', N', S'⟩) hb
      obtain ⟨d0, d1, d2, z0, z1, z2⟩ := v1.cells
      have HB : Hid (Below w.heap.size w w1) := hB
      clear hb hB v0 v1
      go_wp2_with fail
      refine (W2 _).mono ?_; rintro e w2 ⟨rfl, hb⟩
      have HB2 : Hid (Below w.heap.size w w2) := below_two HB.out hb
      clear hb
      go_wp2
      go_ret
      exact setEnd_same HH.out HV.out HB2.out
  have hT : k.T = 0 := by
    rcases hE with e | e | e | e
    · exact absurd e hr
    · exact absurd (.inl e) hw
    · exact absurd (.inr e) hw
    · exact e
  · have HV : Hid (setP (stOf reps count) h k v = (stOf reps count, 5)) := by show _ = _; unfold setP; rw [hsl, if_neg hr, if_neg hw, if_pos hT]
    have hk1 : wfB k = true := by cases hh : wfB k; exact absurd (.inl hh) hw; rfl
    have hv1 : wfB v = true := by cases hh : wfB v; exact absurd (.inr hh) hw; rfl
    rw [hk1] at W1
    rw [hv1] at W2
    obtain ⟨T, N, S⟩ := k
    obtain ⟨T', N', S'⟩ := v
    simp only [valV_mk] at *
    subst hT
    clear H hrow hvc ht hE hw hr fz hk1 hv1
    go_enter Tryz.func56, Tryz.ntmps56
    go_wp2_with fail
    refine (W1 _).mono ?_; rintro e w1 ⟨rfl, hb⟩
    obtain ⟨v0, v1, hB⟩ := two_vals (k := ⟨0, N, S⟩) (z := ⟨T', N', S'⟩) hb
    obtain ⟨d0, d1, d2, z0, z1, z2⟩ := v1.cells
    have HV0 : Hid (VB w1 w.heap.size ⟨0, N, S⟩) := v0
    have HB : Hid (Below w.heap.size w w1) := hB
    clear hb hB v0 v1
    go_wp2_with fail
    refine (W2 _).mono ?_; rintro e w2 ⟨rfl, hb⟩
    have HB2 : Hid (Below w.heap.size w w2) := below_two HB.out hb
    obtain ⟨k0, k1, k2, _⟩ := (HV0.out.below hb).cells
    clear hb
    go_wp2
    go_ret
    exact setEnd_same HH.out HV.out HB2.out

theorem VB.all {w : World} {b : Nat} {v : V} (h : VB w b v) (T : Int) (N : Nat) (S : List UInt8) : VB (((w.setCell ⟨b, 0, none⟩ (.int .i64 T)).setCell ⟨b, 1, none⟩ (.int .u64 N)).setCell ⟨b, 2, none⟩ (.string ⟨S.toArray⟩)) b ⟨T, N, S⟩ := by
  unfold VB at *
  rw [heap_setCell_same (heap_setCell_same (heap_setCell_same h _) _) _]
  rfl
theorem keyOk_oneV {k : V} (hw : wfB k = true) (hN : k.N < 18446744073709551616) (h0 : k.T ≠ 0) (hn : k.T = 2 → ¬ isNaNW k.N) : KeyOk (oneV k) := by
  refine ⟨wf_oneV hw, N_oneV hN, ?_, ?_, ?_⟩
  all_goals
    unfold oneV
    by_cases c : k.T = 2 ∧ k.N = 9223372036854775808
    · rw [if_pos c]
      first
        | (show k.T ≠ 0; exact h0)
        | (intro _; show ¬ isNaNW 0; unfold isNaNW; decide)
        | (intro _; show (0 : Nat) ≠ _; decide)
    · rw [if_neg c]
      first
        | exact h0
        | exact hn
        | exact fun h2 e => c ⟨h2, e⟩
set_option maxRecDepth 8000 in
set_option maxHeartbeats 6400000 in
theorem set_any (own : Nat → Nat) (x : Nat) (reps : List TabR) (count : Nat) (h : Int) (k v : V) (w : World) (H : RealAt own w x reps count) (hk : k.Ok) (hv : v.Ok) :
    Calls Tryz.prog 56 #[.pointer (some ⟨x, 0, none⟩), .int .i64 h, valV k, valV v] w (SetEnd own w x reps count (setP (stOf reps count) h k v)) := by
  by_cases hE : (h < 0 ∨ (count : Int) ≤ h) ∨ wfB k = false ∨ wfB v = false ∨ k.T = 0
  · exact set_errs own x reps count h k v w H hk hv hE
  have hr : ¬ (h < 0 ∨ (count : Int) ≤ h) := fun e => hE (.inl e)
  have hwk : wfB k = true := by cases hh : wfB k; exact absurd (.inr (.inl hh)) hE; rfl
  have hwv : wfB v = true := by cases hh : wfB v; exact absurd (.inr (.inr (.inl hh))) hE; rfl
  have hT0 : k.T ≠ 0 := fun e => hE (.inr (.inr (.inr e)))
  clear hE
  obtain ⟨nb, vt, ht, hrow, hvc⟩ := H.tabs
  obtain ⟨c0, c1, c2, fz, lt⟩ := id ht
  have hne : ¬ x = w.heap.size := by omega
  have hne2 : ¬ x = w.heap.size + 1 := by omega
  have hcl : count ≤ 12 := by have := H.cnt; have := H.max; omega
  have hsl := stOf_len H.cnt
  have HH : Hid (RealAt own w x reps count) := H
  have hr0 : 0 ≤ h := by omega
  have hr1 : h < (count : Int) := by omega
  have W1 := fun w => wf_any k w hk
  have W2 := fun w => wf_any v w hv
  rw [hwk] at W1
  rw [hwv] at W2
  obtain ⟨i, rfl⟩ : ∃ i : Nat, h = (i : Int) := ⟨h.toNat, by omega⟩
  have hi : i < count := by omega
  obtain ⟨r, hr2, hst⟩ := stOf_at H.cnt hi
  have hrl : count ≤ reps.length := H.cnt
  obtain ⟨hrep, hcls⟩ := H.rep i r hr2
  obtain ⟨A, cap, rfl, hta⟩ := tabAt_of hrow hr2 hrep
  have hcA : own A = 2 := hvc A rfl
  obtain ⟨nn, hnn⟩ : ∃ nn : Bool, nn = decide (k.T = 2 ∧ 2047 * 2 ^ 52 < k.N % 2 ^ 63) := ⟨_, rfl⟩
  have HV : Hid (setP (stOf reps count) i k v = if nn then ((stOf reps count, 6) : List Tbl × Int) else setT (stOf reps count) i r.t (oneV k) v) := by
    show _ = _
    unfold setP
    rw [hsl, if_neg hr, if_neg (by rw [hwk, hwv]; simp), if_neg hT0, Int.toNat_natCast, hst, hnn]
    simp only [decide_eq_true_eq, Option.getD_some]
  have HCMP := fun w => cmp_R (.pointer (some ⟨nb, 0, none⟩)) 2 k.N k.N w
  rw [cmp_self hk.N] at HCMP
  have HNN : Hid (nn = decide (k.T = 2 ∧ 2047 * 2 ^ 52 < k.N % 2 ^ 63)) := hnn
  have HX : Hid (TabsAt w x (.pointer (some ⟨nb, 0, none⟩)) (.slice (some ⟨A, 0, none⟩) reps.length cap) count) := ht
  have HA : Hid (TabAt own w A i r) := hta
  have HROW : Hid (w.ownsRow 0 105 6 (.slice (some ⟨A, 0, none⟩) reps.length cap) reps.length (reps.flatMap tabC)) := hrow
  have HCLS : Hid (Closed r.t r.a) := hcls
  have HO := fun w (ht : TabsAt w x (.pointer (some ⟨nb, 0, none⟩)) (.slice (some ⟨A, 0, none⟩) reps.length cap) count) => one_any x nb _ count k w ht hk.N
  have HF := fun w (ht : TabAt own w A i r) => find_any own A i r (oneV k) w ht (wf_oneV hwk) (N_oneV hk.N)
  rw [oneI_oneV] at HF
  have HKK : Hid (KeyOk (oneV k) ∨ nn = true) := by
    by_cases c : k.T = 2 ∧ 2047 * 2 ^ 52 < k.N % 2 ^ 63
    · right; rw [hnn]; exact decide_eq_true c
    · left; exact keyOk_oneV hwk hk.N hT0 (fun h2 hn => c ⟨h2, hn⟩)
  have HVOK : Hid (ValOk v) := ⟨hwv, hv.N⟩
  have HI : Hid (oneI (oneV k) = oneI k) := oneI_oneV k
  have hT0' : (k.T == 0) = false := by simpa using hT0
  have lA := hta.lt
  have HHT : Hid (reps[i]? = some r ∧ own A = 2) := ⟨hr2, hcA⟩
  have d1 : decide ((i : Int) < 0) = false := decide_eq_false (by omega)
  have d2 : decide ((count : Int) ≤ (i : Int)) = false := decide_eq_false (by omega)
  have d3 : decide (count ≤ i) = false := decide_eq_false (by omega)
  generalize hkk : oneV k = kk at *
  generalize hI : oneI k = I at *
  obtain ⟨T, N, S⟩ := k
  obtain ⟨T', N', S'⟩ := kk
  obtain ⟨vT, vN, vS⟩ := v
  simp only [valV_mk] at W1 W2 HO HF ⊢
  simp only at HCMP hT0'
  clear hrow hvc ht hr hwk hwv hT0 hsl hst hrep hcls hta hcA hnn fz hr2 H hk hv hkk hI
  generalize hrlen : reps.length = rl at *
  go_enter Tryz.func56, Tryz.ntmps56
  go_wp2_with fail
  refine (W1 _).mono ?_; rintro e w1 ⟨rfl, hb⟩
  obtain ⟨v0, v1, hB⟩ := two_vals (k := ⟨T, N, S⟩) (z := ⟨vT, vN, vS⟩) hb
  obtain ⟨e0, e1, e2, z0, z1, z2⟩ := v1.cells
  have HB : Hid (Below w.heap.size w w1) := hB
  have HV0 : Hid (VB w1 w.heap.size ⟨T, N, S⟩) := v0
  have HV1 : Hid (VB w1 (w.heap.size + 1) ⟨vT, vN, vS⟩) := v1
  clear hb hB v0 v1 W1
  go_wp2_with fail
  refine (W2 _).mono ?_; rintro e w2 ⟨rfl, hb⟩
  have HB2 : Hid (Below w.heap.size w w2) := below_two HB.out hb
  obtain ⟨k0, k1, k2, _⟩ := (HV0.out.below hb).cells
  have HV0 : Hid (VB w2 w.heap.size ⟨T, N, S⟩) := HV0.out.below hb
  have HV1 : Hid (VB w2 (w.heap.size + 1) ⟨vT, vN, vS⟩) := HV1.out.below hb
  obtain ⟨x0, x1, x2, _, _⟩ := HX.out.below HB2.out
  clear hb W2 e0 e1 e2 z0 z1 z2 HB
  go_upto_region 9 with fail
  go_cut [51] from 15 (fun c wx => c = .bool nn ∧ Below w.heap.size w wx ∧ VB wx w.heap.size ⟨T, N, S⟩ ∧ VB wx (w.heap.size + 1) ⟨vT, vN, vS⟩)
  case first =>
    by_cases t2 : T = 2
    · subst t2
      have hnn := HNN.out
      simp only [true_and] at hnn
      rw [← hnn] at HCMP
      clear HNN hnn HV HO HF
      go_quiet ((go_at_call 64; exact Calls.quiet_of_same (HCMP _)))
      go_wp2_with fail
      go_meet
      case rel => exact ⟨by simp, below_drewN HB2.out _, HV0.out, HV1.out⟩
    · have hnn : nn = false := by rw [HNN.out]; simp [t2]
      have b2 : (T == 2) = false := by simpa using t2
      subst hnn
      clear HNN HV HO HF t2 HCMP
      go_quiet (fail)
      go_wp2_with fail
      go_meet
      case rel => exact ⟨by simp, below_drewN HB2.out _, HV0.out, HV1.out⟩
  case rest =>
  obtain ⟨rfl, hB, v0, v1⟩ := hcut
  have HB3 : Hid (Below w.heap.size w wc) := hB
  cases nn
  case true =>
    have HV : Hid (setP (stOf reps count) i ⟨T, N, S⟩ ⟨vT, vN, vS⟩ = (stOf reps count, 6)) := HV.out
    clear HO HF hB v0 v1
    go_wp2
    go_ret
    exact setEnd_same HH.out HV.out HB3.out
  case false =>
  have HV : Hid (setP (stOf reps count) i ⟨T, N, S⟩ ⟨vT, vN, vS⟩ = setT (stOf reps count) i r.t ⟨T', N', S'⟩ ⟨vT, vN, vS⟩) := HV.out
  have HKK : Hid (KeyOk ⟨T', N', S'⟩) := HKK.out.resolve_right (by decide)
  obtain ⟨k0, k1, k2, _⟩ := v0.cells
  obtain ⟨x0, x1, x2, _, _⟩ := HX.out.below hB
  have HV0 : Hid (VB wc w.heap.size ⟨T, N, S⟩) := v0
  have HV1 : Hid (VB wc (w.heap.size + 1) ⟨vT, vN, vS⟩) := v1
  clear hB v0 v1 HNN HCMP HB2
  go_wp2_with fail
  refine (HO _ (HX.out.below HB3.out)).mono ?_; rintro e w3 ⟨rfl, hb⟩
  have hB4 := below_two HB3.out hb
  obtain ⟨k0, k1, k2, z0, z1, z2⟩ := (HV0.out.below hb).cells
  have HV0 : Hid (VB w3 w.heap.size ⟨T, N, S⟩) := HV0.out.below hb
  have HV1 : Hid (VB w3 (w.heap.size + 1) ⟨vT, vN, vS⟩) := HV1.out.below hb
  have HB4 : Hid (Below w.heap.size w w3) := hB4
  clear hb hB4 HO HB3
  go_wp2_with fail
  have hB5 : Below w.heap.size w _ := below_set0 (below_set0 (below_set0 HB4.out 0 (.int .i64 T')) 1 (.int .u64 N')) 2 (.string ⟨S'.toArray⟩)
  have hV1 := ((HV1.out.set (p := ⟨w.heap.size, 0, none⟩) (by dsimp only; omega) (.int .i64 T')).set (p := ⟨w.heap.size, 1, none⟩) (by dsimp only; omega) (.int .u64 N')).set (p := ⟨w.heap.size, 2, none⟩) (by dsimp only; omega) (.string ⟨S'.toArray⟩)
  have hV0 := HV0.out.all T' N' S'
  refine (HF _ (HA.out.below hB5)).mono ?_; rintro e w5 ⟨rfl, hb⟩
  have HB5 : Hid (Below w.heap.size w w5) := below_two hB5 hb
  obtain ⟨k0, k1, k2, _⟩ := (hV0.below hb).cells
  obtain ⟨v0, v1, v2, _⟩ := (hV1.below hb).cells
  have HV0 : Hid (VB w5 w.heap.size ⟨T', N', S'⟩) := hV0.below hb
  have HV1 : Hid (VB w5 (w.heap.size + 1) ⟨vT, vN, vS⟩) := hV1.below hb
  clear hb hB5 hV1 hV0 HF HB4 z0 z1 z2
  simp only at k0 k1 k2 v0 v1 v2
  cases hidx : idx r.t ⟨T', N', S'⟩ with
  | some p =>
    have HV : Hid (setP (stOf reps count) i ⟨T, N, S⟩ ⟨vT, vN, vS⟩ = ((stOf reps count).set i (setVal r.t p ⟨vT, vN, vS⟩), 0)) := HV.out.trans (by unfold setT; rw [hidx])
    obtain ⟨e, he, _⟩ := idx_some hidx
    have HTU := turn_any own A i r p e ⟨vT, vN, vS⟩ w5 (HA.out.below HB5.out) HHT.out.2 he HVOK.out
    rw [valV_mk] at HTU
    have hplt : p < 32 := by have := idx_lt hidx; have := HA.out.rep.inv.len; omega
    simp only [plc]
    clear hidx he
    go_wp2_with fail
    refine HTU.mono ?_; rintro en w6 ⟨rfl, hT6, hO6⟩
    have HT6 : Hid (TabAt own w6 A i _ ∧ Only own A i w5 w6) := ⟨hT6, hO6⟩
    clear hT6 hO6
    go_wp2
    go_ret
    refine setEnd_mk (by rw [HV.out]) own (reps.set i _) (fun _ _ => rfl) ((HH.out.below HB5.out).turned (by rw [hrlen]; exact HX.out.below HB5.out) (ownsRow_block (by rw [hrlen]; exact HROW.out) (fun g hg => HB5.out.block g (by cases hg; exact lA))) HHT.out.2 HHT.out.1 hi HT6.out.1 (closed_keys (setVal_keys _ _ _) HCLS.out) HT6.out.2 (fun _ _ => rfl)) ?_ ((Chg.of_below HB5.out).trans (Chg.of_only HT6.out.2 HHT.out.2 (by omega)) (fun _ _ => rfl))
    rw [HV.out, stOf_set]
  | none =>
    have NV := fun w => isNil_any ⟨vT, vN, vS⟩ w
    rw [valV_mk] at NV
    have hHV := HV.out
    unfold setT at hHV
    rw [hidx] at hHV
    simp only [plc]
    cases hnil : isNilB ⟨vT, vN, vS⟩
    case true =>
      rw [hnil] at hHV NV
      have HV : Hid (setP (stOf reps count) i ⟨T, N, S⟩ ⟨vT, vN, vS⟩ = (stOf reps count, 0)) := hHV
      clear hHV hidx hnil
      go_wp2_with fail
      refine (NV _).mono ?_; rintro e w6 ⟨rfl, hb⟩
      have HB6 : Hid (Below w.heap.size w w6) := below_two HB5.out hb
      clear hb
      go_wp2
      go_ret
      exact setEnd_same HH.out HV.out HB6.out
    case false =>
    rw [hnil] at hHV NV
    have HNIL : Hid (isNilB ⟨vT, vN, vS⟩ = false) := hnil
    have HIDX : Hid (idx r.t ⟨T', N', S'⟩ = none) := hidx
    clear hidx hnil
    obtain ⟨ado, oc, hvo⟩ := row_slice HA.out.rep.ord
    have hl32 : r.t.length ≤ 32 := HA.out.rep.inv.len
    by_cases hfull : 32 ≤ r.t.length
    · have HV : Hid (setP (stOf reps count) i ⟨T, N, S⟩ ⟨vT, vN, vS⟩ = (stOf reps count, 8)) := hHV.trans (by rw [if_neg (by decide), if_pos hfull])
      have HVO : Hid (r.vo = .slice ado r.t.length oc) := hvo
      generalize r.t.length = tl at *
      clear hHV hvo
      go_wp2_with fail
      refine (NV _).mono ?_; rintro e w6 ⟨rfl, hb⟩
      have HB6 : Hid (Below w.heap.size w w6) := below_two HB5.out hb
      have a0 := (HA.out.below HB6.out).c0
      rw [HVO.out] at a0
      clear hb
      go_wp2
      go_ret
      exact setEnd_same HH.out HV.out HB6.out
    have hlt32 : r.t.length < 32 := by omega
    have HV : Hid (setP (stOf reps count) i ⟨T, N, S⟩ ⟨vT, vN, vS⟩ = ((stOf reps count).set i (r.t ++ [(⟨T', N', S'⟩, ⟨vT, vN, vS⟩)]), 0)) := hHV.trans (by rw [if_neg (by decide), if_neg hfull])
    have HVO : Hid (r.vo = .slice ado r.t.length oc) := hvo
    clear hHV hfull
    obtain ⟨tl, htl⟩ : ∃ tl, tl = r.t.length := ⟨_, rfl⟩
    rw [← htl] at hvo hl32 hlt32
    have HTL : Hid (tl = r.t.length) := htl
    clear htl
    go_wp2_with fail
    refine (NV _).mono ?_; rintro e w6 ⟨rfl, hb⟩
    have hB6 := below_two HB5.out hb
    have hT6 := HA.out.below hB6
    have a0 := hT6.c0
    rw [hvo] at a0
    obtain ⟨k0, k1, k2, _⟩ := (HV0.out.below hb).cells
    obtain ⟨v0, v1, v2, _⟩ := (HV1.out.below hb).cells
    simp only at k0 k1 k2 v0 v1 v2
    obtain ⟨g, c, w7, happ, hrow7, hg7, hgw⟩ := append_ord (w := w6.drew) hT6.rep.ord (by have := HTL.out; omega) ⟨T', N', S'⟩ ⟨vT, vN, vS⟩ 100
    have hg7' : w6.grownBy w7 r.vo.ownBlock := ⟨hg7.os, hg7.tape, hg7.output, hg7.size, hg7.block⟩
    obtain ⟨hP, hO7⟩ := pre_of hT6 HHT.out.2 HNIL.out hrow7 hg7' hgw
    have f0 : w7.frozen? ⟨A, i * 6, none⟩ = false := by
      have := hP.fz (i * 6)
      rw [World.frozen?_setCell] at this
      exact this
    have f0c : ∃ u, w7.cell? ⟨A, i * 6, none⟩ = some u := by
      have hvA : r.vo.ownBlock ≠ some A := fun e => by have := hT6.rep.ordc A e; rw [HHT.out.2] at this; omega
      exact ⟨_, (World.cell?_of_block (a := ⟨A, i * 6, none⟩) (hg7'.block A hT6.lt (Ne.symm hvA))).trans hT6.c0⟩
    obtain ⟨u0, f0c⟩ := f0c
    rw [← HTL.out] at happ hP hO7
    rw [hvo] at happ
    simp only at happ
    have lA6 : A < w6.heap.size := hT6.lt
    have hneA6 : ¬ A = w6.heap.size := by omega
    have HP : Hid (PreAt _ _ A i r _ _) := hP
    have HO7 : Hid (Only own A i w6 _) := hO7
    have HB6 : Hid (Below w.heap.size w w6) := hB6
    have HBOX : Hid (VB (w7.setCell ⟨A, i * 6, none⟩ (.slice (some ⟨g, 0, none⟩) (tl + 1) c)) w.heap.size ⟨T', N', S'⟩) := by
      refine VB.set ?_ (by dsimp only; omega) _
      have hv6 := HV0.out.below hb
      have hlt6 : w.heap.size < w6.heap.size := by
        unfold VB at hv6
        rcases Nat.lt_or_ge w.heap.size w6.heap.size with c | c
        · exact c
        · rw [Array.getElem?_eq_none c] at hv6; cases hv6
      unfold VB at *
      rw [hg7'.block _ hlt6 (fun e => by have := ownsRow_lt HA.out.rep.ord _ e.symm; omega)]
      exact hv6
    clear hb hB6 hT6 hrow7 hg7 hg7' hgw hP hO7 hvo NV HV0 HV1 HB5
    go_upto_region 21 with fail
    go_cut [] from 15 (fun wx => wx = w7.setCell ⟨A, i * 6, none⟩ (.slice (some ⟨g, 0, none⟩) (tl + 1) c))
    case first =>
      clear HV HA HCLS HH HX HROW HP HO7 HB6 HKK HIDX HNIL HVO HTL HI HHT HVOK
      go_region_law (refine step_append_eq rfl (.tmp 86) (.tmp 90) 100 rfl _ _ _ _ (by simp [Act.eval, Act.put]) (by simp [Act.eval, Act.put]) happ ?_)
      all_goals
        go_wp2_with fail
        go_meet
        case rel => rfl
    case rest =>
    obtain rfl := hcut
    obtain ⟨p0, p1, p2, p3, p4, p5, pfz, plt, _⟩ := id HP.out
    obtain ⟨ada, acap, hva⟩ := row_slice HP.out.arr
    rw [hva] at p1
    have hal : r.a.length ≤ 32 := by have := HA.out.rep.sum; have := HTL.out; omega
    have hnn : r.nn ≤ 32 ∧ r.ns ≤ 32 ∧ r.nr ≤ 32 := by have := HA.out.rep.sum; have := HTL.out; omega
    obtain ⟨k0, k1, k2, _⟩ := HBOX.out.cells
    simp only at k0 k1 k2
    have HOWN : Hid (∀ k, k < w6.heap.size → (fun j => if j = g ∧ w6.heap.size ≤ j then 10 + 5 * i else own j) k = own k) := fun k hk => ite_own hk
    obtain ⟨own1, hown1⟩ : ∃ own1, own1 = (fun j => if j = g ∧ w6.heap.size ≤ j then 10 + 5 * i else own j) := ⟨_, rfl⟩
    rw [← hown1] at HP HOWN
    clear hown1
    obtain ⟨W7, hW7⟩ : ∃ W7, W7 = w7.setCell ⟨A, i * 6, none⟩ (.slice (some ⟨g, 0, none⟩) (tl + 1) c) := ⟨_, rfl⟩
    rw [← hW7] at HP HO7 HBOX p0 p1 p2 p3 p4 p5 pfz plt k0 k1 k2 ⊢
    have HINV : Hid (Inv r.t r.a) := HA.out.rep.inv
    have hlt32' : r.t.length < 32 := by rw [← HTL.out]; exact hlt32
    have HLT : Hid (r.t.length < 32) := hlt32'
    have HFIN : Hid (∀ own2 w8 r', TabAt own2 w8 A i r' → Closed r'.t r'.a → r'.t = r.t ++ [(⟨T', N', S'⟩, ⟨vT, vN, vS⟩)] → Only own A i w6 w8 → (∀ k, k < w6.heap.size → own2 k = own k) → SetEnd own w x reps count (setP (stOf reps count) i ⟨T, N, S⟩ ⟨vT, vN, vS⟩) (.returned (.int .i64 0)) w8) := by
      intro own2 w8 r' h1 h2 h3 h4 h5
      refine setEnd_mk (by rw [HV.out]) own2 (reps.set i r') (fun k hk => h5 k (Nat.lt_of_lt_of_le hk HB6.out.size)) ((HH.out.below HB6.out).turned (by rw [hrlen]; exact HX.out.below HB6.out) (ownsRow_block (by rw [hrlen]; exact HROW.out) (fun g hg => HB6.out.block g (by cases hg; exact lA))) HHT.out.2 HHT.out.1 hi h1 h2 h4 h5) ?_ ((Chg.of_below HB6.out).trans (Chg.of_only h4 HHT.out.2 (by omega)) (fun _ _ => rfl))
      rw [HV.out, stOf_set, h3]
    have HXC : Hid (own x = 1) := HH.out.xc
    clear HH HROW HV hrlen happ f0 f0c a0
    by_cases hI : I = ((r.a.length + 1 : Nat) : Int)
    · have bI : (I != (r.a.length : Int) + 1) = false := by rw [bne_eq_false_iff_eq]; omega
      have hkn : (⟨T', N', S'⟩ : V) = numKey (r.a.length + 1) := key_is HKK.out (by rw [HI.out]; exact hI)
      obtain ⟨g2, c2, w8, happ2, hrow8, hg8, hgw8⟩ := append_arr (w := W7) HP.out.arr (by omega) (tl : Int) 101
      obtain ⟨q1, q2⟩ := pre_arr HP.out HINV.out HIDX.out hlt32' HKK.out HVOK.out hkn (by rw [← HTL.out]; exact hrow8) hg8 hgw8
      have hxA : x ≠ A := by rintro rfl; have := HXC.out; have := HHT.out.2; omega
      have hx6 : x < w6.heap.size := (HX.out.below HB6.out).lt
      have hX7 : TabsAt W7 x (.pointer (some ⟨nb, 0, none⟩)) (.slice (some ⟨A, 0, none⟩) rl cap) count := (HX.out.below HB6.out).kept (HO7.out.block x hx6 hxA (by rw [HXC.out]; omega)) HO7.out.size
      have hx1 : own1 x = 1 := (HOWN.out x hx6).trans HXC.out
      have hA1 : own1 A = 2 := (HOWN.out A (HX.out.below HB6.out |>.lt |> fun _ => Nat.lt_of_lt_of_le lA HB6.out.size)).trans HHT.out.2
      have hX8 : TabsAt _ x (.pointer (some ⟨nb, 0, none⟩)) (.slice (some ⟨A, 0, none⟩) rl cap) count := hX7.kept (q2.block x hX7.lt hxA (by rw [hx1]; omega)) q2.size
      have hmig := migrate_any _ x nb _ count A i _ _ hX8 q1 ((ite_own plt).trans hA1) ((ite_own hX7.lt).trans hx1)
      have hvA : r.va.ownBlock ≠ some A := fun e => by have := HP.out.arrc A e; omega
      have keepA : w8.heap[A]? = W7.heap[A]? := hg8.block A plt (Ne.symm hvA)
      have f1 : w8.frozen? ⟨A, i * 6 + 1, none⟩ = false := (World.frozen?_of_block (a := ⟨A, i * 6 + 1, none⟩) keepA).trans (pfz _)
      have f1c : w8.cell? ⟨A, i * 6 + 1, none⟩ = some (.slice ada r.a.length acap) := (World.cell?_of_block (a := ⟨A, i * 6 + 1, none⟩) keepA).trans p1
      have hne7 : ¬ A = W7.heap.size := by omega
      have HMID : Hid (∀ k, k < w6.heap.size → (fun j => if j = g2 ∧ W7.heap.size ≤ j then 11 + 5 * i else own1 j) k = own k) := fun k hk => (ite_own (Nat.lt_of_lt_of_le hk HO7.out.size)).trans (HOWN.out k hk)
      have HO8 : Hid (Only own A i w6 _) := HO7.out.trans q2 HOWN.out
      rw [hva] at happ2
      generalize r.a.length = al at *
      clear q1 q2 hX7 hX8 hrow8 hg8 hgw8 hI hlt32' hva hW7 hkn keepA
      go_wp2_with (at_builtin; refine wpList_append_eq rfl _ _ 101 rfl _ _ _ _ rfl rfl happ2 ?_)
      refine hmig.mono ?_; rintro en w9 ⟨rfl, own3, r3, o1, o2, o3, o4, o5⟩
      have HQ : Hid ((∀ k, k < (w8.setCell ⟨A, i * 6 + 1, none⟩ (.slice (some ⟨g2, 0, none⟩) (al + 1) c2)).heap.size → own3 k = _) ∧ TabAt own3 w9 A i r3 ∧ r3.t = r.t ++ [(⟨T', N', S'⟩, ⟨vT, vN, vS⟩)] ∧ Closed r3.t r3.a ∧ Only _ A i _ w9) := ⟨o1, o2, o3, o4, o5⟩
      clear o1 o2 o3 o4 o5
      go_wp2
      go_ret
      obtain ⟨o1, o2, o3, o4, o5⟩ := HQ.out
      refine HFIN.out own3 w9 r3 o2 o4 o3 (HO8.out.trans o5 (fun k hk => HMID.out k hk)) (fun k hk => (o1 k (Nat.lt_of_lt_of_le hk HO8.out.size)).trans (HMID.out k hk))
    · have bI : (I != (r.a.length : Int) + 1) = true := by rw [bne_iff_ne]; intro e; exact hI (by omega)
      have HCL : Hid (Closed (r.t ++ [(⟨T', N', S'⟩, ⟨vT, vN, vS⟩)]) r.a) := closed_grown HCLS.out _ HIDX.out hal (by rw [HI.out]; exact hI)
      have HCALL : Calls Tryz.prog 73 #[.pointer (some ⟨A, i * 6, none⟩), .agg #[.int .i64 T', .int .u64 N', .string ⟨S'.toArray⟩], .int .i32 tl] W7 fun en w8 => en = .returned (.tuple #[]) ∧ ∃ r', TabAt own1 w8 A i r' ∧ r'.t = r.t ++ [(⟨T', N', S'⟩, ⟨vT, vN, vS⟩)] ∧ r'.a = r.a ∧ Only own1 A i W7 w8 := by
        rw [← valV_mk]
        by_cases t2 : T' = 2
        · refine (index_num A i r.bn r.nn tl _ ⟨T', N', S'⟩ W7 p2 plt HP.out.nums t2 HKK.out.N (by omega) (by omega) (by rw [find_nums HKK.out.wf t2 (not_inArr HINV.out HKK.out t2 HIDX.out)]; exact HIDX.out)).mono ?_
          rintro en w8 ⟨rfl, hm, hg⟩
          obtain ⟨q1, q2⟩ := pre_num HP.out HINV.out HIDX.out hlt32' HKK.out HVOK.out t2 (by rw [← HTL.out]; exact hm) hg
          exact ⟨rfl, _, q1, rfl, rfl, q2⟩
        by_cases t3 : T' = 3
        · refine (index_str A i r.bs r.ns tl _ ⟨T', N', S'⟩ W7 p3 plt HP.out.strs t3 (wf_str HKK.out.wf t3).2 (by omega) (by omega) (by rw [find_strs HKK.out.wf t3]; exact HIDX.out)).mono ?_
          rintro en w8 ⟨rfl, hm, hg⟩
          obtain ⟨q1, q2⟩ := pre_str HP.out HINV.out HIDX.out hlt32' HKK.out HVOK.out t3 (by rw [← HTL.out]; exact hm) hg
          exact ⟨rfl, _, q1, rfl, rfl, q2⟩
        · refine (index_ref A i r.br r.nr tl _ ⟨T', N', S'⟩ W7 p4 plt HP.out.refs HKK.out.wf t2 t3 (by omega) (by omega) (by rw [find_refs HINV.out.keys HKK.out.wf t2 t3]; exact HIDX.out)).mono ?_
          rintro en w8 ⟨rfl, hm, hg⟩
          obtain ⟨q1, q2⟩ := pre_ref HP.out HINV.out HIDX.out hlt32' HKK.out HVOK.out t2 t3 (by rw [← HTL.out]; exact hm) hg
          exact ⟨rfl, _, q1, rfl, rfl, q2⟩
      generalize r.a.length = al at *
      clear hI hlt32' hva hW7
      go_wp2_with fail
      refine HCALL.mono ?_; rintro en w8 ⟨rfl, r', q1, q2, q3, q4⟩
      have HQ : Hid (TabAt own1 w8 A i r' ∧ r'.t = r.t ++ [(⟨T', N', S'⟩, ⟨vT, vN, vS⟩)] ∧ r'.a = r.a ∧ Only own1 A i W7 w8) := ⟨q1, q2, q3, q4⟩
      clear q1 q2 q3 q4
      go_wp2
      go_ret
      exact HFIN.out own1 w8 r' HQ.out.1 (by rw [HQ.out.2.1, HQ.out.2.2.1]; exact HCL.out) HQ.out.2.1 (HO7.out.trans HQ.out.2.2.2 HOWN.out) HOWN.out
end Go.Proofs.Qxb6500293aGreatRR
