import Derived.Test.Qxb6500292aU7
namespace Go.Proofs.Qxb6500292a
open Go.RowKit
open Ieee (double)
set_option linter.unusedVariables false
set_option linter.unusedSimpArgs false

set_option maxRecDepth 8000 in
set_option maxHeartbeats 3200000 in
theorem mset_errs (own : Nat → Nat) (y : Nat) (st : List Tbl) (h : Int) (k v : V) (w : World) (H : ModAt own w y st) (hk : k.Ok) (hv : v.Ok) (hE : (h < 0 ∨ (st.length : Int) ≤ h) ∨ wfB k = false ∨ wfB v = false ∨ k.T = 0) :
    Calls Try.prog 41 #[.pointer (some ⟨y, 0, none⟩), .int .i64 h, valV k, valV v] w fun e w' => e = .returned (.int .i64 (setP st h k v).2) ∧ MEnd own w y (setP st h k v).1 w' := by
  have HM : Hid (∀ w', Below w.heap.size w w' → MEnd own w y st w') := fun w' hb => MEnd.same H hb
  obtain ⟨np, vt, vs, ⟨c0, c1, fz, lt⟩, h2, _⟩ := H.tabs
  obtain ⟨ad0, cp0, rfl⟩ := row_slice h2
  have hm := H.max
  have hne : ¬ y = w.heap.size := by omega
  have hne2 : ¬ y = w.heap.size + 1 := by omega
  by_cases hr : h < 0 ∨ (st.length : Int) ≤ h
  · have HV : Hid (setP st h k v = (st, 3)) := by show _ = _; unfold setP; rw [if_pos hr]
    obtain ⟨T, N, S⟩ := k
    obtain ⟨vT, vN, vS⟩ := v
    rw [valV_mk, valV_mk]
    clear H h2 hE
    have hr : h < 0 ∨ (0 ≤ h ∧ (st.length : Int) ≤ h) := by omega
    generalize st.length = sl at *
    rcases hr with hr | ⟨hr0, hr⟩
    all_goals
      go_enter Try.func41, Try.ntmps41
      go_wp2
      go_ret
      exact ⟨by rw [HV.out]; rfl, by rw [HV.out]; exact HM.out _ ((below_one _ _).alloc (by simp) _)⟩
  have hr0 : 0 ≤ h := by omega
  have hr1 : h < (st.length : Int) := by omega
  have HWk := fun w => wf_any k w hk
  have HWv := fun w => wf_any v w hv
  by_cases hw : wfB k = false ∨ wfB v = false
  · have HV : Hid (setP st h k v = (st, 4)) := by show _ = _; unfold setP; rw [if_neg hr, if_pos hw]
    have hb2 : wfB k = false ∨ (wfB k = true ∧ wfB v = false) := by
      rcases hw with h | h
      · exact .inl h
      · cases hc : wfB k
        · exact .inl rfl
        · exact .inr ⟨rfl, h⟩
    obtain ⟨T, N, S⟩ := k
    obtain ⟨vT, vN, vS⟩ := v
    rw [valV_mk] at HWk HWv ⊢
    rw [valV_mk]
    generalize wfB ⟨T, N, S⟩ = bk at *
    generalize wfB ⟨vT, vN, vS⟩ = bv at *
    clear H h2 hE hr hw
    generalize st.length = sl at *
    rcases hb2 with rfl | ⟨rfl, rfl⟩
    all_goals
      go_enter Try.func41, Try.ntmps41
      go_wp2_with fail
      refine (HWk _).mono ?_; rintro e w1 ⟨rfl, hb⟩
      obtain ⟨v0, v1, hB⟩ := two_vals (k := ⟨T, N, S⟩) (z := ⟨vT, vN, vS⟩) hb
      obtain ⟨d0, d1, d2, _⟩ := v1.cells
      simp only at d0 d1 d2
      have HB : Hid (Below w.heap.size w w1) := hB
      clear hb hB v0 v1
      go_wp2_with fail
      refine (HWv _).mono ?_; rintro e w2 ⟨rfl, hb⟩
      have HB2 : Hid (Below w.heap.size w w2) := below_two HB.out hb
      clear hb
      go_wp2
      go_ret
      exact ⟨by rw [HV.out]; rfl, by rw [HV.out]; exact HM.out _ HB2.out⟩
  have hwk : wfB k = true := by cases hh : wfB k; exact absurd (.inl hh) hw; rfl
  have hwv : wfB v = true := by cases hh : wfB v; exact absurd (.inr hh) hw; rfl
  have hT : k.T = 0 := by
    rcases hE with h | h | h | h
    · exact absurd h hr
    · exact absurd (.inl h) hw
    · exact absurd (.inr h) hw
    · exact h
  have HV : Hid (setP st h k v = (st, 5)) := by show _ = _; unfold setP; rw [if_neg hr, if_neg hw, if_pos hT]
  rw [hwk] at HWk
  rw [hwv] at HWv
  obtain ⟨T, N, S⟩ := k
  obtain ⟨vT, vN, vS⟩ := v
  simp only at hT
  subst hT
  rw [valV_mk] at HWk HWv ⊢
  rw [valV_mk]
  clear H h2 hE hr hw hwk hwv
  generalize st.length = sl at *
  go_enter Try.func41, Try.ntmps41
  go_wp2_with fail
  refine (HWk _).mono ?_; rintro e w1 ⟨rfl, hb⟩
  obtain ⟨v0, v1, hB⟩ := two_vals (k := ⟨0, N, S⟩) (z := ⟨vT, vN, vS⟩) hb
  obtain ⟨d0, d1, d2, _⟩ := v1.cells
  simp only at d0 d1 d2
  have HB : Hid (Below w.heap.size w w1) := hB
  have HV0 : Hid (VB w1 w.heap.size ⟨0, N, S⟩) := v0
  clear hb hB v0 v1
  go_wp2_with fail
  refine (HWv _).mono ?_; rintro e w2 ⟨rfl, hb⟩
  have HB2 : Hid (Below w.heap.size w w2) := below_two HB.out hb
  obtain ⟨k0, k1, k2, _⟩ := (HV0.out.below hb).cells
  simp only at k0 k1 k2
  clear hb
  go_wp2
  go_ret
  exact ⟨by rw [HV.out]; rfl, by rw [HV.out]; exact HM.out _ HB2.out⟩

theorem MEnd.drew {own : Nat → Nat} {w w' : World} {y : Nat} {st : List Tbl} (h : MEnd own w y st w') : MEnd own w y st w'.drew := by
  obtain ⟨own', h1, h2, h3⟩ := h
  exact ⟨own', h1, h2.below (Below.drew (Below.refl _ _)), ⟨h3.os, h3.tape, h3.output, h3.size, h3.block⟩⟩
/-- norm by contract, as one step of a region that draws. -/
theorem step_norm {ops : Array Oper} {o : Oper} {a : Act} {w : World} {K : Act → World → Prop} {Q : Exit → Act → World → Prop} {E : Prop}
    (hg : o.guard = none) (n : Nat) (hop : o.op = Op.call { callee := Callee.value (.func 63), args := #[.tmp n], argTypes := #[42] })
    (v : Value) (hx : a.eval (.tmp n) = v) {Post : Ending → World → Prop} (hC : Calls Try.prog 63 #[v] w Post) (hK : ∀ e w', Post e w' → ∃ r, e = .returned r ∧ K (a.put o.dst r) w') : if Region.wanted o (yielded ops a.tmps) = true then Oper.wp Try.prog o a w K Q else E := by
  have hw : Region.wanted o (yielded ops a.tmps) = true := by simp [Region.wanted, hg]
  rw [if_pos hw]
  unfold Oper.wp
  have hrun : (execOp a.eval o).run Try.prog w = .ok (.enter 63 #[v]) w := by
    have hx' : a.tmps[n]?.getD undef = v := by simpa [go_sem] using hx
    simp [execOp, hop, go_sem, hx']
  rw [hrun]
  refine hC.mono ?_
  intro e w' h
  obtain ⟨r, rfl, h2⟩ := hK e w' h
  exact h2
set_option maxRecDepth 8000 in
set_option maxHeartbeats 3200000 in
theorem mset_any (own : Nat → Nat) (y : Nat) (st : List Tbl) (h : Int) (k v : V) (w : World) (H : ModAt own w y st) (hG : GoodSt st) (hk : k.Ok) (hv : v.Ok) :
    Calls Try.prog 41 #[.pointer (some ⟨y, 0, none⟩), .int .i64 h, valV k, valV v] w fun e w' => e = .returned (.int .i64 (setP st h k v).2) ∧ MEnd own w y (setP st h k v).1 w' := by
  by_cases hE : (h < 0 ∨ (st.length : Int) ≤ h) ∨ wfB k = false ∨ wfB v = false ∨ k.T = 0
  · exact mset_errs own y st h k v w H hk hv hE
  have hr : ¬ (h < 0 ∨ (st.length : Int) ≤ h) := fun e => hE (.inl e)
  have hwk : wfB k = true := by cases hh : wfB k; exact absurd (.inr (.inl hh)) hE; rfl
  have hwv : wfB v = true := by cases hh : wfB v; exact absurd (.inr (.inr (.inl hh))) hE; rfl
  have hT : ¬ k.T = 0 := fun e => hE (.inr (.inr (.inr e)))
  obtain ⟨np, vt, vs, ⟨c0, c1, fz, lt⟩, h2, _⟩ := H.tabs
  obtain ⟨ad0, cp0, rfl⟩ := row_slice h2
  have hm := H.max
  have hne : ¬ y = w.heap.size := by omega
  have hne2 : ¬ y = w.heap.size + 1 := by omega
  obtain ⟨i, rfl⟩ : ∃ i : Nat, h = (i : Int) := ⟨h.toNat, by omega⟩
  have hi : i < st.length := by omega
  obtain ⟨t, hst, hgd⟩ := st_at hi
  obtain ⟨G, cG, ad, cR, hrow⟩ := H.row hst
  have HWk := fun w => wf_any k w hk
  have HWv := fun w => wf_any v w hv
  rw [hwk] at HWk
  rw [hwv] at HWv
  have HNN := fun w (H : ModAt own w y st) => isNaN_any own y st k w H hk.N
  have HF := fun w (H : ModAt own w y st) => mfind_any own y st i t k w H hst (hG.at hst) hk.N
  have HNO := fun w => norm_any k w hk.N
  have hnv := nilT hwv
  obtain ⟨a, hinv⟩ := hG.at hst
  have hl32 := hinv.len
  have HM : Hid (ModAt own w y st) := H
  have HR : Hid (MRow w y G st.length cG i ad t cR) := hrow
  have HST : Hid (st[i]? = some t) := hst
  have HV : setP st i k v = if k.T = 2 ∧ 2047 * 2 ^ 52 < k.N % 2 ^ 63 then (st, 6) else setT st i t (oneV k) v := by
    unfold setP
    rw [if_neg hr, if_neg (by rw [hwk, hwv]; simp), if_neg hT, Int.toNat_natCast, hgd]
  have d1 : decide ((i : Int) < 0) = false := decide_eq_false (by omega)
  have d2 : decide ((st.length : Int) ≤ (i : Int)) = false := decide_eq_false (by omega)
  have d3 : decide (st.length ≤ i) = false := decide_eq_false (by omega)
  obtain ⟨sl, hsl⟩ : ∃ sl, sl = st.length := ⟨_, rfl⟩
  rw [← hsl] at *
  obtain ⟨nan, hnan⟩ : ∃ nan, nan = (decide (k.T = 2) && decide (2047 * 2 ^ 52 < k.N % 2 ^ 63)) := ⟨_, rfl⟩
  rw [← hnan] at HNN
  have bT : (k.T == 0) = false := by simpa using hT
  have c1' := (((below_one w (.cells #[.int .i64 k.T, .int .u64 k.N, .string ⟨k.S.toArray⟩] 42)).alloc (by simp) (.cells #[.int .i64 v.T, .int .u64 v.N, .string ⟨v.S.toArray⟩] 42)).cell (p := ⟨y, 1, none⟩) lt).trans c1
  have HBX : Hid (∀ w1, Below (((w.alloc (.cells #[.int .i64 k.T, .int .u64 k.N, .string ⟨k.S.toArray⟩] 42)).alloc (.cells #[.int .i64 v.T, .int .u64 v.N, .string ⟨v.S.toArray⟩] 42))).heap.size ((w.alloc (.cells #[.int .i64 k.T, .int .u64 k.N, .string ⟨k.S.toArray⟩] 42)).alloc (.cells #[.int .i64 v.T, .int .u64 v.N, .string ⟨v.S.toArray⟩] 42)) w1 → VB w1 w.heap.size k ∧ VB w1 (w.heap.size + 1) v ∧ Below w.heap.size w w1) := fun w1 hb => two_vals hb
  cases hnn : nan
  case true =>
    have HV2 : Hid (setP st i k v = (st, 6)) := by
      show _ = _
      rw [hnan] at hnn
      simp at hnn
      rw [HV, if_pos ⟨hnn.1, by omega⟩]
    subst hnn
    obtain ⟨T, N, S⟩ := k
    obtain ⟨vT, vN, vS⟩ := v
    simp only [valV_mk] at *
    have HME : Hid (∀ w', Below w.heap.size w w' → MEnd own w y st w') := fun w' hb => MEnd.same H hb
    clear H hG hr hwk hwv hk hv hst hgd hrow hinv h2 hsl c0 fz hE HV HF HNO hnv hnan hT
    go_enter Try.func41, Try.ntmps41
    go_wp2_with fail
    refine (HWk _).mono ?_; rintro e w1 ⟨rfl, hb⟩
    obtain ⟨v0, v1, hB⟩ := HBX.out _ hb
    obtain ⟨f0, f1, f2, _⟩ := v1.cells
    simp only at f0 f1 f2
    have HB : Hid (Below w.heap.size w w1 ∧ VB w1 w.heap.size ⟨T, N, S⟩) := ⟨hB, v0⟩
    clear hb hB v0 v1
    go_wp2_with fail
    refine (HWv _).mono ?_; rintro e w2 ⟨rfl, hb⟩
    have HB2 : Hid (Below w.heap.size w w2 ∧ VB w2 w.heap.size ⟨T, N, S⟩) := ⟨below_two HB.out.1 hb, HB.out.2.below hb⟩
    have HM2 : Hid (ModAt own w2 y st) := HM.out.below HB2.out.1
    obtain ⟨k0, k1, k2, _⟩ := HB2.out.2.cells
    simp only at k0 k1 k2
    clear hb
    go_wp2_with fail
    refine (HNN _ HM2.out).mono ?_; rintro e w3 ⟨rfl, hb⟩
    have HB3 : Hid (Below w.heap.size w w3) := below_two HB2.out.1 hb
    clear hb
    go_wp2
    go_ret
    exact ⟨by rw [HV2.out]; rfl, by rw [HV2.out]; exact HME.out _ HB3.out⟩
  case false =>
    have HV2 : setP st i k v = setT st i t (oneV k) v := by
      rw [hnan] at hnn
      rw [HV, if_neg]
      rintro ⟨h1, h2⟩
      rw [decide_eq_true h1, decide_eq_true h2] at hnn
      cases hnn
    subst hnn
    have hO' : ∀ p, idx t (oneV k) = some p → ∃ e, t[p]? = some e := fun p hp => by obtain ⟨e, he, _⟩ := idx_some hp; exact ⟨e, he⟩
    unfold setT at HV2
    generalize oneV k = kk at *
    generalize idx t kk = o at *
    have HO' : Hid (∀ p, o = some p → ∃ e, t[p]? = some e) := hO'
    have HV2' : Hid (_ = _) := HV2
    clear HV2
    have HV2 := HV2'
    clear HV2'
    have HME : Hid (∀ w', Below w.heap.size w w' → MEnd own w y st w') := fun w' hb => MEnd.same H hb
    obtain ⟨T, N, S⟩ := k
    obtain ⟨vT, vN, vS⟩ := v
    obtain ⟨T', N', S'⟩ := kk
    simp only [valV_mk] at *
    clear H hG hr hwk hwv hk hv hst hgd hrow hinv h2 hsl c0 fz hE HV hnan hT hO'
    go_enter Try.func41, Try.ntmps41
    go_wp2_with fail
    refine (HWk _).mono ?_; rintro e w1 ⟨rfl, hb⟩
    obtain ⟨v0, v1, hB⟩ := HBX.out _ hb
    obtain ⟨f0, f1, f2, _⟩ := v1.cells
    simp only at f0 f1 f2
    have HB : Hid (Below w.heap.size w w1 ∧ VB w1 w.heap.size ⟨T, N, S⟩ ∧ VB w1 (w.heap.size + 1) ⟨vT, vN, vS⟩) := ⟨hB, v0, v1⟩
    clear hb hB v0 v1
    go_wp2_with fail
    refine (HWv _).mono ?_; rintro e w2 ⟨rfl, hb⟩
    have HB2 : Hid (Below w.heap.size w w2 ∧ VB w2 w.heap.size ⟨T, N, S⟩ ∧ VB w2 (w.heap.size + 1) ⟨vT, vN, vS⟩) := ⟨below_two HB.out.1 hb, HB.out.2.1.below hb, HB.out.2.2.below hb⟩
    have HM2 : Hid (ModAt own w2 y st) := HM.out.below HB2.out.1
    obtain ⟨k0, k1, k2, _⟩ := HB2.out.2.1.cells
    simp only at k0 k1 k2
    clear hb HB f0 f1 f2
    go_wp2_with fail
    refine (HNN _ HM2.out).mono ?_; rintro e w3 ⟨rfl, hb⟩
    have HB3 : Hid (Below w.heap.size w w3 ∧ VB w3 w.heap.size ⟨T, N, S⟩ ∧ VB w3 (w.heap.size + 1) ⟨vT, vN, vS⟩) := ⟨below_two HB2.out.1 hb, HB2.out.2.1.below hb, HB2.out.2.2.below hb⟩
    have HM3 : Hid (ModAt own w3 y st) := HM.out.below HB3.out.1
    clear k0 k1 k2
    obtain ⟨k0, k1, k2, _⟩ := HB3.out.2.1.cells
    simp only at k0 k1 k2
    clear hb HB2 HM2
    go_wp2_with fail
    refine (HF _ HM3.out).mono ?_; rintro e w4 ⟨rfl, hb⟩
    have HB4 : Hid (Below w.heap.size w w4 ∧ VB w4 w.heap.size ⟨T, N, S⟩ ∧ VB w4 (w.heap.size + 1) ⟨vT, vN, vS⟩) := ⟨below_two HB3.out.1 hb, HB3.out.2.1.below hb, HB3.out.2.2.below hb⟩
    clear k0 k1 k2
    obtain ⟨k0, k1, k2, _⟩ := HB4.out.2.1.cells
    obtain ⟨f0, f1, f2, _⟩ := HB4.out.2.2.cells
    simp only at k0 k1 k2 f0 f1 f2
    clear hb HB3 HM3 HF HNN HWk HWv
    obtain ⟨c1w, r1w, hent, _, _⟩ := HR.out.below HB4.out.1
    cases o with
    | some p =>
      obtain ⟨e, he⟩ := HO'.out p rfl
      have hp := (List.getElem?_eq_some_iff.1 he).1
      obtain ⟨g, rfl, hgl, hcR, _, _, _, e3, e4, e5⟩ := hent p e he
      obtain ⟨hme, z3, z4, z5⟩ := mset_turned HM.out HB4.out.1 HST.out (HR.out.below HB4.out.1) he ⟨vT, vN, vS⟩
      have HMT : Hid (MEnd own w y _ _) := hme
      have hpz : ¬ (p : Int) < 0 := by omega
      have dp : decide ((0 : Int) ≤ (p : Int)) = true := decide_eq_true (by omega)
      obtain ⟨⟨ekT, ekN, ekS⟩, ⟨evT, evN, evS⟩⟩ := e
      simp only at e3 e4 e5 HV2 hme
      have n1 : ¬ g = w.heap.size + 1 := by
        obtain ⟨g', e1, e2, _⟩ := HR.out.ent p _ he
        cases e1
        omega
      simp only [plc]
      generalize t.length = tl at *
      clear hent he hme
      go_wp2_with fail
      go_region
      all_goals go_wp2
      all_goals
        go_ret
        exact ⟨by rw [HV2.out]; rfl, by rw [HV2.out]; exact HMT.out.drew⟩
    | none =>
      simp only at HV2
      simp only [plc]
      by_cases hz : vT = 0
      · have HV3 : Hid (setP st i ⟨T, N, S⟩ ⟨vT, vN, vS⟩ = (st, 0)) := by
          show _ = _
          rw [HV2.out, hnv, decide_eq_true hz]; rfl
        subst hz
        clear hent hnv HV2
        go_wp2
        go_ret
        exact ⟨by rw [HV3.out]; rfl, by rw [HV3.out]; exact HME.out _ HB4.out.1⟩
      · have bz : (vT == 0) = false := by simpa using hz
        by_cases hfull : 32 ≤ t.length
        · have HV3 : Hid (setP st i ⟨T, N, S⟩ ⟨vT, vN, vS⟩ = (st, 8)) := by
            show _ = _
            rw [HV2.out, hnv, decide_eq_false hz, if_neg (by simp), if_pos hfull]
          have h32 : t.length = 32 := by omega
          rw [h32] at r1w
          clear hent hnv HV2 hz hl32 hfull h32
          go_wp2
          go_ret
          exact ⟨by rw [HV3.out]; rfl, by rw [HV3.out]; exact HME.out _ HB4.out.1⟩
        · have HV3 : Hid (setP st i ⟨T, N, S⟩ ⟨vT, vN, vS⟩ = (st.set i (t ++ [(⟨T', N', S'⟩, ⟨vT, vN, vS⟩)]), 0)) := by
            show _ = _
            rw [HV2.out, hnv, decide_eq_false hz, if_neg (by simp), if_neg hfull]
          have hlt32 : t.length < 32 := by omega
          have d32 : decide ((32 : Int) ≤ (t.length : Int)) = false := decide_eq_false (by omega)
          have d33 : decide (32 ≤ t.length) = false := decide_eq_false (by omega)
          clear hent HV2 hnv hz
          go_upto_region 20 with fail
          go_cut [13] from 14 (fun v wx => ∃ g c, v = .slice (some ⟨g, 0, none⟩) (t.length + 1) c ∧ wx.cell? ⟨y, 1, none⟩ = some (.slice (some ⟨G, 0, none⟩) st.length cG) ∧ wx.frozen? ⟨G, i, none⟩ = false ∧ wx.cell? ⟨G, i, none⟩ = some (.slice ad t.length cR) ∧ Hid (MEnd own w y (st.set i (t ++ [(⟨T', N', S'⟩, ⟨vT, vN, vS⟩)])) (wx.setCell ⟨G, i, none⟩ (.slice (some ⟨g, 0, none⟩) (t.length + 1) c))))
          case first =>
            have HAP : Hid (∀ w5, Below w4.drew.heap.size w4.drew w5 → ((w5.alloc (.cells #[.int .i64 T', .int .u64 N', .string ⟨S'.toArray⟩, .int .i64 vT, .int .u64 vN, .string ⟨vS.toArray⟩] 111)).cell? ⟨y, 1, none⟩ = some (.slice (some ⟨G, 0, none⟩) st.length cG) ∧ (w5.alloc (.cells #[.int .i64 T', .int .u64 N', .string ⟨S'.toArray⟩, .int .i64 vT, .int .u64 vN, .string ⟨vS.toArray⟩] 111)).cell? ⟨G, i, none⟩ = some (.slice ad t.length cR) ∧ w5.cell? ⟨y, 1, none⟩ = some (.slice (some ⟨G, 0, none⟩) st.length cG) ∧ w5.cell? ⟨G, i, none⟩ = some (.slice ad t.length cR) ∧ (w5.cell? ⟨w.heap.size + 1, 0, none⟩ = some (.int .i64 vT) ∧ w5.cell? ⟨w.heap.size + 1, 1, none⟩ = some (.int .u64 vN) ∧ w5.cell? ⟨w.heap.size + 1, 2, none⟩ = some (.string ⟨vS.toArray⟩))) ∧ ∃ g c w7, (Builtin.append_ #[110, 110] 110 #[.slice ad t.length cR, .slice (some ⟨w5.heap.size, 0, none⟩) 1 1]).run Try.prog (w5.alloc (.cells #[.int .i64 T', .int .u64 N', .string ⟨S'.toArray⟩, .int .i64 vT, .int .u64 vN, .string ⟨vS.toArray⟩] 111)) = .ok (.slice (some ⟨g, 0, none⟩) (t.length + 1) c) w7 ∧ MEnd own w y (st.set i (t ++ [(⟨T', N', S'⟩, ⟨vT, vN, vS⟩)])) (w7.setCell ⟨G, i, none⟩ (.slice (some ⟨g, 0, none⟩) (t.length + 1) c)) ∧ w7.cell? ⟨y, 1, none⟩ = some (.slice (some ⟨G, 0, none⟩) st.length cG) ∧ w7.frozen? ⟨G, i, none⟩ = false ∧ w7.cell? ⟨G, i, none⟩ = some (.slice ad t.length cR)) := by
              intro w5 hb5
              have hB5 : Below w.heap.size w w5 := below_two HB4.out.1.drew hb5
              have hr5 := HR.out.below hB5
              have v5 := (VB.below HB4.out.2.2 (Below.drew (Below.refl _ _))).below hb5
              obtain ⟨g0, g1, g2, _⟩ := v5.cells
              have hM5 := HM.out.below hB5
              obtain ⟨np', vt', vs', hs', hrw', hvc', hrows'⟩ := hM5.tabs
              obtain ⟨v0, q1, q2, q3⟩ := hrows' i t HST.out
              have e2 := hr5.r
              obtain ⟨G', cG', hvt', _, hG', kk⟩ := row_cell hrw' q1
              have e1 := hs'.c1
              rw [hvt', hr5.c1] at e1
              cases e1
              rw [kk] at e2
              cases e2
              obtain ⟨g, c, w7, happ, hrow7, hg7, hgw⟩ := append_pairs q2 (by omega) ⟨T', N', S'⟩ ⟨vT, vN, vS⟩ 110
              obtain ⟨m1, m2, m3, m4⟩ := mset_grown HM.out hB5 HST.out hr5 hrow7 hg7 hgw
              exact ⟨⟨((below_one w5 _).cell (p := ⟨y, 1, none⟩) hr5.ly).trans hr5.c1, ((below_one w5 _).cell (p := ⟨G, i, none⟩) hr5.lG).trans hr5.r, hr5.c1, hr5.r, g0, g1, g2⟩, g, c, w7, happ, m1, m2, m3, m4⟩
            clear HR HM HST HB4 HBX HME HV3 HO'
            go_region_law (first
              | (refine step_norm rfl 78 rfl _ (by simp [Act.eval, Act.put]) (HNO _) ?_; rintro e w5 ⟨rfl, hb5⟩; refine ⟨_, rfl, ?_⟩; obtain ⟨⟨ny5, nG5, s1, s2, s3, s4, s5⟩, g, c, w7, happ, m1, m2, m3, m4⟩ := HAP.out w5 hb5)
              | refine step_append_eq rfl (.tmp 77) (.tmp 82) 110 rfl _ _ _ _ (by simp [Act.eval, Act.put]) (by simp [Act.eval, Act.put]) happ ?_)
            all_goals
              go_wp2_with fail
              go_meet
              case rel => exact ⟨g, c, rfl, m2, m3, m4, m1⟩
          case rest =>
            obtain ⟨g, c, rfl, m2, m3, m4, HME2⟩ := hcut
            clear k0 k1 k2 f0 f1 f2 c1w r1w
            go_wp2
            go_ret
            exact ⟨by rw [HV3.out]; rfl, by rw [HV3.out]; exact HME2.out⟩
end Go.Proofs.Qxb6500292a
