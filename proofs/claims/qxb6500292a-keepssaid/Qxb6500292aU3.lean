import Derived.Test.Qxb6500292aU2
namespace Go.Proofs.Qxb6500292a
open Go.RowKit
open Ieee (double)
set_option linter.unusedVariables false
set_option linter.unusedSimpArgs false

theorem st_at {st : List Tbl} {h : Nat} (hh : h < st.length) : ∃ t, st[h]? = some t ∧ st[h]?.getD [] = t := ⟨st[h], List.getElem?_eq_getElem hh, by rw [List.getElem?_eq_getElem hh]; rfl⟩
set_option maxRecDepth 8000 in
set_option maxHeartbeats 3200000 in
theorem mget_any (own : Nat → Nat) (y : Nat) (st : List Tbl) (h : Int) (k : V) (w : World) (H : ModAt own w y st) (hG : GoodSt st) (hk : k.Ok) :
    Calls Try.prog 40 #[.pointer (some ⟨y, 0, none⟩), .int .i64 h, valV k] w fun e w' => e = .returned (.tuple #[valV (getP st h k).1, .int .i64 (getP st h k).2]) ∧ Below w.heap.size w w' := by
  obtain ⟨np, vt, vs, ⟨c0, c1, fz, lt⟩, h2, _⟩ := H.tabs
  obtain ⟨ad0, cp0, rfl⟩ := row_slice h2
  have hm := H.max
  have hne : ¬ y = w.heap.size := by omega
  have hne2 : ¬ y = w.heap.size + 1 := by omega
  by_cases hr : h < 0 ∨ (st.length : Int) ≤ h
  · have HV : Hid (getP st h k = (nilV, 3)) := by show _ = _; unfold getP; rw [if_pos hr]
    obtain ⟨T, N, S⟩ := k
    rw [valV_mk]
    clear H h2 hG
    have hr : h < 0 ∨ (0 ≤ h ∧ (st.length : Int) ≤ h) := by omega
    generalize st.length = sl at *
    rcases hr with hr | ⟨hr0, hr⟩
    all_goals
      go_enter Try.func40, Try.ntmps40
      go_wp2
      refine bodyPost_ret (v := .tuple #[.agg #[.int .i64 0, .int .u64 0, .string ⟨#[]⟩], .int .i64 3]) (by simp [results, go_sem]) rfl ?_
      refine ⟨ret_vi' (by rw [HV.out]; rfl) (by rw [HV.out]), ?_⟩
      repeat (first | refine Below.setCell ?_ (Nat.le_add_right _ _) _ | refine below_drewN ?_ _)
      exact (below_one _ _).alloc (by simp) _
  have hr0 : 0 ≤ h := by omega
  have hr1 : h < (st.length : Int) := by omega
  have HW := fun w => wf_any k w hk
  by_cases hw : wfB k = false
  · have HV : Hid (getP st h k = (nilV, 4)) := by show _ = _; unfold getP; rw [if_neg hr, if_pos hw]
    rw [hw] at HW
    obtain ⟨T, N, S⟩ := k
    rw [valV_mk] at HW ⊢
    clear H h2 hG hr
    generalize st.length = sl at *
    go_enter Try.func40, Try.ntmps40
    go_wp2_with fail
    refine (HW _).mono ?_; rintro e w1 ⟨rfl, hb⟩
    obtain ⟨v0, v1, hB⟩ := two_vals (k := ⟨T, N, S⟩) (z := nilV) hb
    obtain ⟨d0, d1, d2, z0, z1, z2⟩ := v1.cells
    have HB : Hid (Below w.heap.size w w1) := hB
    clear hb hB v0 v1
    go_wp2
    refine bodyPost_ret (v := .tuple #[.agg #[.int .i64 0, .int .u64 0, .string ⟨#[]⟩], .int .i64 4]) (by simp [results, go_sem, d0, d1, d2]) rfl ?_
    refine ⟨ret_vi' (by rw [HV.out]; rfl) (by rw [HV.out]), ?_⟩
    repeat (first | refine Below.setCell ?_ (Nat.le_add_right _ _) _ | refine below_drewN ?_ _)
    exact HB.out
  have hw : wfB k = true := by simpa using hw
  obtain ⟨i, rfl⟩ : ∃ i : Nat, h = (i : Int) := ⟨h.toNat, by omega⟩
  have hi : i < st.length := by omega
  obtain ⟨t, hst, hgd⟩ := st_at hi
  obtain ⟨G, cG, ad, cR, hrow⟩ := H.row hst
  have HV : Hid (getP st i k = match idx t (oneV k) with
    | none => (nilV, 0)
    | some p => ((t[p]?.getD (nilV, nilV)).2, 0)) := by
    show _ = _
    unfold getP
    rw [if_neg hr, if_neg (by rw [hw]; decide), Int.toNat_natCast, hgd]
    rfl
  rw [hw] at HW
  have HF := fun w (H : ModAt own w y st) => mfind_any own y st i t k w H hst (hG.at hst) hk.N
  obtain ⟨a, hinv⟩ := hG.at hst
  have hl32 := hinv.len
  have HM : Hid (ModAt own w y st) := H
  have HR : Hid (MRow w y G st.length cG i ad t cR) := hrow
  have hO' : ∀ p, idx t (oneV k) = some p → ∃ e, t[p]? = some e := fun p hp => by obtain ⟨e, he, _⟩ := idx_some hp; exact ⟨e, he⟩
  generalize idx t (oneV k) = o at *
  have HO' : Hid (∀ p, o = some p → ∃ e, t[p]? = some e) := hO'
  have d1 : decide ((i : Int) < 0) = false := decide_eq_false (by omega)
  have d2 : decide ((st.length : Int) ≤ (i : Int)) = false := decide_eq_false (by omega)
  have d3 : decide (st.length ≤ i) = false := decide_eq_false (by omega)
  obtain ⟨T, N, S⟩ := k
  simp only [valV_mk] at *
  obtain ⟨sl, hsl⟩ : ∃ sl, sl = st.length := ⟨_, rfl⟩
  rw [← hsl] at *
  clear H hG hr hw hk hst hgd hrow hinv hO' h2 hsl c0 c1 fz
  obtain ⟨c1, _, _, ly, lG⟩ := id HR.out
  go_enter Try.func40, Try.ntmps40
  go_wp2_with fail
  refine (HW _).mono ?_; rintro e w1 ⟨rfl, hb⟩
  obtain ⟨v0, v1, hB⟩ := two_vals (k := ⟨T, N, S⟩) (z := nilV) hb
  obtain ⟨k0, k1, k2, _⟩ := v0.cells
  simp only at k0 k1 k2
  have HB : Hid (Below w.heap.size w w1) := hB
  have HV1 : Hid (VB w1 (w.heap.size + 1) nilV) := v1
  have HM1 : Hid (ModAt own w1 y st) := HM.out.below hB
  clear hb hB v0 v1 c1
  go_wp2_with fail
  refine (HF _ HM1.out).mono ?_; rintro e w2 ⟨rfl, hb⟩
  have hB := below_two HB.out hb
  obtain ⟨c1, r1, hent, _, _⟩ := HR.out.below hB
  have v1 := HV1.out.below hb
  obtain ⟨d0, d1', d2', z0, z1, z2⟩ := v1.cells
  have HB2 : Hid (Below w.heap.size w w2) := hB
  clear hb hB k0 k1 k2 HB HM1 HF HM
  cases o with
  | none =>
    clear v1 hent
    simp only [plc]
    go_wp2
    refine bodyPost_ret (v := .tuple #[.agg #[.int .i64 0, .int .u64 0, .string ⟨#[]⟩], .int .i64 0]) (by simp [results, go_sem, d0, d1', d2']) rfl ?_
    refine ⟨ret_vi' (by rw [HV.out]; rfl) (by rw [HV.out]), ?_⟩
    repeat (first | refine Below.setCell ?_ (Nat.le_add_right _ _) _ | refine below_drewN ?_ _)
    exact HB2.out
  | some p =>
    obtain ⟨e, he⟩ := HO'.out p rfl
    have hp := (List.getElem?_eq_some_iff.1 he).1
    obtain ⟨g, rfl, hgl, hcR, _, _, _, e3, e4, e5⟩ := hent p e he
    simp only at HV
    rw [he] at HV
    clear hent he v1
    obtain ⟨ek, ⟨vT, vN, vS⟩⟩ := e
    simp only at e3 e4 e5 HV
    simp only [plc]
    generalize t.length = tl at *
    have hpz : ¬ (p : Int) < 0 := by omega
    go_wp2
    refine bodyPost_ret (v := .tuple #[.agg #[.int .i64 vT, .int .u64 vN, .string ⟨vS.toArray⟩], .int .i64 0]) (by simp [results, go_sem, d0, d1', d2']) rfl ?_
    refine ⟨ret_vi' (by rw [HV.out]; rfl) (by rw [HV.out]), ?_⟩
    repeat (first | refine Below.setCell ?_ (Nat.le_add_right _ _) _ | refine below_drewN ?_ _)
    exact HB2.out

theorem nilT {v : V} (h : wfB v = true) : isNilB v = decide (v.T = 0) := by
  unfold isNilB
  by_cases c : v.T = 0
  · rw [decide_eq_true c]
    obtain ⟨T, N, S⟩ := v
    simp only at c
    subst c
    have hS := (wf_other h (show (0 : Int) ≠ 3 by decide)).1
    unfold wfB at h
    simp only at hS
    subst hS
    simp at h
    apply (eqV_iff _ _).2
    rw [h]
    rfl
  · rw [decide_eq_false c]
    apply (eqV_no _ _).2
    rintro rfl
    exact c rfl
theorem nodup_sub_len : ∀ (l1 l2 : List V), l1.Nodup → (∀ x ∈ l1, x ∈ l2) → l1.length ≤ l2.length
  | [], _, _, _ => Nat.zero_le _
  | a :: l1, l2, hn, hs => by
    have ha := hs a (by simp)
    letI : DecidableEq V := decV
    have h1 := nodup_sub_len l1 (l2.erase a) (List.nodup_cons.1 hn).2 (fun x hx => (List.mem_erase_of_ne (by rintro rfl; exact (List.nodup_cons.1 hn).1 hx)).2 (hs x (by simp [hx])))
    rw [List.length_erase_of_mem ha] at h1
    have h2 : 0 < l2.length := List.length_pos_of_mem ha
    rw [List.length_cons]
    omega
theorem live_bound {t : Tbl} {a : List Nat} (hi : Inv t a) (h : ∀ m, m < 33 → liveB t m = true) : False := by
  have h1 := nodup_sub_len ((List.range 33).map fun m => numKey (m + 1)) (t.map (·.1)) ?_ ?_
  · have := hi.len
    simp at h1
    omega
  · rw [List.nodup_iff_pairwise_ne, List.pairwise_map]
    refine List.Pairwise.imp_of_mem ?_ (List.nodup_iff_pairwise_ne.1 List.nodup_range)
    intro i j hi hj hne e
    rw [List.mem_range] at hi hj
    have := fl_inj (i := i + 1) (j := j + 1) (by omega) (by omega) (congrArg V.N e)
    omega
  · intro x hx
    rw [List.mem_map] at hx
    obtain ⟨m, hm, rfl⟩ := hx
    rw [List.mem_range] at hm
    have hl := h m hm
    unfold liveB at hl
    cases hp : idx t (numKey (m + 1)) with
    | none => rw [hp] at hl; cases hl
    | some p =>
      obtain ⟨e, h1, h2⟩ := idx_some hp
      exact List.mem_map.2 ⟨e, List.mem_of_getElem? h1, h2⟩
set_option maxRecDepth 8000 in
set_option maxHeartbeats 3200000 in
theorem mlen_any (own : Nat → Nat) (y : Nat) (st : List Tbl) (h : Int) (w : World) (H : ModAt own w y st) (hG : GoodSt st) :
    Calls Try.prog 43 #[.pointer (some ⟨y, 0, none⟩), .int .i64 h] w fun e w' => e = .returned (.tuple #[.int .i64 (lenP st h).1, .int .i64 (lenP st h).2]) ∧ Below w.heap.size w w' := by
  obtain ⟨np, vt, vs, ⟨c0, c1, fz, lt⟩, h2, _⟩ := H.tabs
  obtain ⟨ad0, cp0, rfl⟩ := row_slice h2
  have hm := H.max
  by_cases hr : h < 0 ∨ (st.length : Int) ≤ h
  · have HV : Hid (lenP st h = (-1, 3)) := by show _ = _; unfold lenP; rw [if_pos hr]
    clear H h2 hG
    have hr : h < 0 ∨ (0 ≤ h ∧ (st.length : Int) ≤ h) := by omega
    generalize st.length = sl at *
    rcases hr with hr | ⟨hr0, hr⟩
    all_goals
      go_enter Try.func43, Try.ntmps43
      go_wp2
      go_ret2
      exact ⟨ret_ii (by rw [HV.out]) (by rw [HV.out]), Below.refl _ _⟩
  have hr0 : 0 ≤ h := by omega
  obtain ⟨i, rfl⟩ : ∃ i : Nat, h = (i : Int) := ⟨h.toNat, by omega⟩
  have hi : i < st.length := by omega
  obtain ⟨t, hst, hgd⟩ := st_at hi
  obtain ⟨G, cG, ad, cR, hrow⟩ := H.row hst
  have HV : Hid (lenP st i = (((brd t : Nat) : Int), 0)) := by
    show _ = _
    unfold lenP
    rw [if_neg hr, Int.toNat_natCast, hgd]
  have HF := fun k w (H : ModAt own w y st) hk => mfind_any own y st i t k w H hst (hG.at hst) hk
  obtain ⟨a, hinv⟩ := hG.at hst
  have hl32 := hinv.len
  have HINV : Hid (Inv t a) := hinv
  have HM : Hid (ModAt own w y st) := H
  have HS : Hid (ModS w y np (.slice ad0 st.length cp0)) := ⟨c0, c1, fz, lt⟩
  have HR : Hid (MRow w y G st.length cG i ad t cR) := hrow
  have d1 : decide ((i : Int) < 0) = false := decide_eq_false (by omega)
  have d2 : decide ((st.length : Int) ≤ (i : Int)) = false := decide_eq_false (by omega)
  have d3 : decide (st.length ≤ i) = false := decide_eq_false (by omega)
  obtain ⟨sl, hsl⟩ : ∃ sl, sl = st.length := ⟨_, rfl⟩
  rw [← hsl] at *
  clear H hG hr hst hgd hrow hinv h2 hsl c0 fz
  go_enter Try.func43, Try.ntmps43
  go_wp2_with fail
  go_loopw [6] (fun j wr => ∃ n : Nat, j = .int .i64 (n : Int) ∧ n ≤ 32 ∧ Hid (∀ m, m < n → liveB t m = true) ∧ Hid (Below w.heap.size w wr)) (fun j _ => 40 - (intOf j).toNat)
  case atStart => exact ⟨0, by go_num, by omega, fun m hm => by omega, Below.refl _ _⟩
  case round =>
    obtain ⟨n, rfl, hn, HL, HB⟩ := hrel
    have HFI := fun w => fromInt_M np ((n : Int) + 1) w (by omega) (by omega)
    have efl : double.nearest (decide ((n : Int) + 1 < 0)) ((n : Int) + 1).natAbs 0 = fl (n + 1) := by
      rw [decide_eq_false (by omega), show ((n : Int) + 1).natAbs = n + 1 by omega]; rfl
    rw [efl] at HFI
    have s0 := (HB.out.cell (p := ⟨y, 0, none⟩) lt).trans HS.out.c0
    have HF1 := HF (numKey (n + 1)) wr (HM.out.below HB.out) (fl_lt (n + 1))
    have eo : oneV (numKey (n + 1)) = numKey (n + 1) := by
      unfold oneV
      rw [if_neg (fun h => (numKey_ok (i := n + 1) (by omega) (by omega)).zero rfl h.2)]
    rw [eo] at HF1
    rw [show valV (numKey (n + 1)) = .agg #[.int .i64 2, .int .u64 (fl (n + 1)), .string ⟨#[]⟩] from rfl] at HF1
    have HLB : Hid (liveB t n = match idx t (numKey (n + 1)) with
      | some p => !isNilB (t[p]?.getD (nilV, nilV)).2
      | none => false) := rfl
    have hO' : ∀ p, idx t (numKey (n + 1)) = some p → ∃ e, t[p]? = some e := fun p hp => by obtain ⟨e, he, _⟩ := idx_some hp; exact ⟨e, he⟩
    generalize idx t (numKey (n + 1)) = o at *
    have HO' : Hid (∀ p, o = some p → ∃ e, t[p]? = some e) := hO'
    have hle : decide ((n : Int) ≤ 32) = true := decide_eq_true (by omega)
    generalize fl (n + 1) = FN at *
    clear eo efl hO'
    go_wp2_with fail
    refine (HFI _).mono ?_; rintro e w1 ⟨rfl, rfl⟩
    go_wp2_with fail
    refine HF1.mono ?_; rintro e w2 ⟨rfl, hb⟩
    have hB := below_two HB.out hb
    obtain ⟨c1, r1, hent, _, _⟩ := HR.out.below hB
    have HB2 : Hid (Below w.heap.size w w2) := hB
    clear hb hB HF1 HFI s0
    cases o with
    | none =>
      have HBR : Hid (brd t = n) := brd_eq hn HL.out HLB.out
      clear hent
      simp only [plc]
      go_wp2
      go_ret2
      exact ⟨ret_ii (by rw [HV.out, HBR.out]) (by rw [HV.out]), HB2.out⟩
    | some p =>
      obtain ⟨e, he⟩ := HO'.out p rfl
      have hp := (List.getElem?_eq_some_iff.1 he).1
      obtain ⟨g, rfl, hgl, hcR, _, _, _, e3, e4, e5⟩ := hent p e he
      have hnil := nilT (HINV.out.vals e (List.mem_of_getElem? he)).wf
      have HLB2 : Hid (liveB t n = !decide (e.2.T = 0)) := by
        show _ = _
        rw [HLB.out]
        show (!isNilB (t[p]?.getD (nilV, nilV)).2) = _
        rw [he]
        show (!isNilB e.2) = _
        rw [hnil]
      clear hent hnil HLB
      obtain ⟨ek, ⟨vT, vN, vS⟩⟩ := e
      simp only at e3 e4 e5 HLB2
      simp only [plc]
      generalize htl : t.length = tl at *
      have hpz : ¬ (p : Int) < 0 := by omega
      clear he
      by_cases cz : vT = 0
      · subst cz
        have HBR : Hid (brd t = n) := brd_eq hn HL.out HLB2.out
        clear htl
        go_wp2
        go_ret2
        exact ⟨ret_ii (by rw [HV.out, HBR.out]) (by rw [HV.out]), HB2.out⟩
      · have HLV : Hid (liveB t n = true) := by show _ = _; rw [HLB2.out, decide_eq_false cz]; rfl
        have HL2 : Hid (∀ m, m < n + 1 → liveB t m = true) := by
          intro m hm
          rcases Nat.lt_or_ge m n with c | c
          · exact HL.out m c
          · have : m = n := by omega
            subst this; exact HLV.out
        have hn31 : n + 1 ≤ 32 := by
          rcases Nat.lt_or_ge n 32 with c | c
          · omega
          · exfalso
            have hn' : n = 32 := by omega
            exact live_bound HINV.out (fun m hm => HL2.out m (by omega))
        have bz : (vT == 0) = false := by simpa using cz
        clear htl cz HLB2
        go_wp2_with fail
        go_roundw
        case rel => exact ⟨n + 1, by go_num, hn31, HL2, HB2⟩
        case measure => simp [intOf]; omega
end Go.Proofs.Qxb6500292a
