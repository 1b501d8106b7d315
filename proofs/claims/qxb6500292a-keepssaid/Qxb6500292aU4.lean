import Derived.Test.Qxb6500292aU3
import Derived.BigRegion
namespace Go.Proofs.Qxb6500292a
open Go.RowKit
open Ieee (double)
set_option linter.unusedVariables false
set_option linter.unusedSimpArgs false

/-- Next's own three boxes. -/
structure N3 (w W : World) (k : V) : Prop where
  k0 : VB W w.heap.size k
  r0 : VB W (w.heap.size + 1) nilV
  r1 : VB W (w.heap.size + 1 + 1) nilV
abbrev n3W (w : World) (k : V) : World := ((w.alloc (.cells #[.int .i64 k.T, .int .u64 k.N, .string ⟨k.S.toArray⟩] 42)).alloc (.cells #[.int .i64 0, .int .u64 0, .string ⟨#[]⟩] 42)).alloc (.cells #[.int .i64 0, .int .u64 0, .string ⟨#[]⟩] 42)
theorem n3W_below (w : World) (k : V) : Below w.heap.size w (n3W w k) := below_two (below_two (below_one _ _) (below_one _ _)) (below_one _ _)
theorem N3.new (w : World) (k : V) : N3 w (n3W w k) k := by
  refine ⟨((VB.new w k).alloc _).alloc _, ?_, ?_⟩
  · have := (VB.new (w.alloc (.cells #[.int .i64 k.T, .int .u64 k.N, .string ⟨k.S.toArray⟩] 42)) nilV).alloc (.cells #[.int .i64 0, .int .u64 0, .string ⟨#[]⟩] 42)
    rw [World.size_alloc] at this
    exact this
  · have := VB.new ((w.alloc (.cells #[.int .i64 k.T, .int .u64 k.N, .string ⟨k.S.toArray⟩] 42)).alloc (.cells #[.int .i64 0, .int .u64 0, .string ⟨#[]⟩] 42)) nilV
    rw [World.size_alloc, World.size_alloc] at this
    exact this
theorem N3.below {w W W' : World} {k : V} (h : N3 w W k) (hb : Below W.heap.size W W') : N3 w W' k := ⟨h.k0.below hb, h.r0.below hb, h.r1.below hb⟩
theorem N3.drewN {w W : World} {k : V} (h : N3 w W k) (m : Nat) : N3 w (W.drewN m) k := by
  obtain ⟨a, b, c⟩ := h
  unfold VB at *
  exact ⟨by unfold VB; rw [heap_drewN]; exact a, by unfold VB; rw [heap_drewN]; exact b, by unfold VB; rw [heap_drewN]; exact c⟩

set_option maxRecDepth 8000 in
set_option maxHeartbeats 3200000 in
theorem mnext_errs (own : Nat → Nat) (y : Nat) (st : List Tbl) (h : Int) (k : V) (w : World) (H : ModAt own w y st) (hG : GoodSt st) (hk : k.Ok) (hE : (h < 0 ∨ (st.length : Int) ≤ h) ∨ wfB k = false) :
    Calls Try.prog 42 #[.pointer (some ⟨y, 0, none⟩), .int .i64 h, valV k] w fun e w' => e = .returned (.tuple #[valV (nextP st h k).1, valV (nextP st h k).2.1, .int .i64 (nextP st h k).2.2]) ∧ Below w.heap.size w w' := by
  obtain ⟨np, vt, vs, ⟨c0, c1, fz, lt⟩, h2, _⟩ := H.tabs
  obtain ⟨ad0, cp0, rfl⟩ := row_slice h2
  have hm := H.max
  have hne : ¬ y = w.heap.size := by omega
  have hne2 : ¬ y = w.heap.size + 1 := by omega
  have hne3 : ¬ y = w.heap.size + 1 + 1 := by omega
  by_cases hr : h < 0 ∨ (st.length : Int) ≤ h
  · have HV : Hid (nextP st h k = (nilV, nilV, 3)) := by show _ = _; unfold nextP; rw [if_pos hr]
    have c1' := ((n3W_below w k).cell (p := ⟨y, 1, none⟩) lt).trans c1
    obtain ⟨T, N, S⟩ := k
    rw [valV_mk]
    clear H h2 hG hE
    have hr : h < 0 ∨ (0 ≤ h ∧ (st.length : Int) ≤ h) := by omega
    generalize st.length = sl at *
    rcases hr with hr | ⟨hr0, hr⟩
    all_goals
      go_enter Try.func42, Try.ntmps42
      go_wp2
      refine bodyPost_ret (v := .tuple #[.agg #[.int .i64 0, .int .u64 0, .string ⟨#[]⟩], .agg #[.int .i64 0, .int .u64 0, .string ⟨#[]⟩], .int .i64 3]) (by simp [results, go_sem]) rfl ?_
      refine ⟨ret_vvi (by rw [HV.out]; rfl) (by rw [HV.out]; rfl) (by rw [HV.out]), ?_⟩
      repeat (first | refine Below.setCell ?_ (by dsimp only; omega) _ | refine below_drewN ?_ _)
      exact n3W_below w ⟨T, N, S⟩
  have hr0 : 0 ≤ h := by omega
  have hr1 : h < (st.length : Int) := by omega
  have hw : wfB k = false := by rcases hE with h | h; exact absurd h hr; exact h
  have HW := fun w => wf_any k w hk
  have HV : Hid (nextP st h k = (nilV, nilV, 4)) := by show _ = _; unfold nextP; rw [if_neg hr, if_pos hw]
  rw [hw] at HW
  have HN : Hid (N3 w (n3W w k) k) := N3.new w k
  have HNB : Hid (Below w.heap.size w (n3W w k)) := n3W_below w k
  have c1' := ((n3W_below w k).cell (p := ⟨y, 1, none⟩) lt).trans c1
  obtain ⟨T, N, S⟩ := k
  rw [valV_mk] at HW ⊢
  clear H h2 hG hr hE hw hk
  generalize st.length = sl at *
  go_enter Try.func42, Try.ntmps42
  go_wp2_with fail
  refine (HW _).mono ?_; rintro e w1 ⟨rfl, hb⟩
  have hn := HN.out.below hb
  have HB : Hid (Below w.heap.size w w1) := below_two HNB.out hb
  obtain ⟨d0, d1, d2, z0, z1, z2⟩ := hn.r0.cells
  obtain ⟨f0, f1, f2, y0, y1, y2⟩ := hn.r1.cells
  clear hb hn
  go_wp2
  refine bodyPost_ret (v := .tuple #[.agg #[.int .i64 0, .int .u64 0, .string ⟨#[]⟩], .agg #[.int .i64 0, .int .u64 0, .string ⟨#[]⟩], .int .i64 4]) (by simp [results, go_sem, d0, d1, d2, f0, f1, f2]) rfl ?_
  refine ⟨ret_vvi (by rw [HV.out]; rfl) (by rw [HV.out]; rfl) (by rw [HV.out]), ?_⟩
  repeat (first | refine Below.setCell ?_ (by dsimp only; omega) _ | refine below_drewN ?_ _)
  exact HB.out
theorem items_dead {t : Tbl} {fr n : Nat} {e : V × V} (hn : items t fr false n = []) (he : t[n]? = some e) (hd : isNilB e.2 = true) : items t fr false (n + 1) = [] := by
  rw [items_succ, hn]
  unfold metB
  rw [he]
  simp [hd]
theorem items_live {t : Tbl} {fr n : Nat} {e : V × V} (hf : fr ≤ n) (hn : items t fr false n = []) (he : t[n]? = some e) (hd : isNilB e.2 = false) : items t fr false (n + 1) = [n] := by
  rw [items_succ, hn]
  unfold metB
  rw [he]
  simp [hd, hf]

set_option maxRecDepth 8000 in
set_option maxHeartbeats 3200000 in
theorem mnext_any (own : Nat → Nat) (y : Nat) (st : List Tbl) (h : Int) (k : V) (w : World) (H : ModAt own w y st) (hG : GoodSt st) (hk : k.Ok) :
    Calls Try.prog 42 #[.pointer (some ⟨y, 0, none⟩), .int .i64 h, valV k] w fun e w' => e = .returned (.tuple #[valV (nextP st h k).1, valV (nextP st h k).2.1, .int .i64 (nextP st h k).2.2]) ∧ Below w.heap.size w w' := by
  by_cases hE : (h < 0 ∨ (st.length : Int) ≤ h) ∨ wfB k = false
  · exact mnext_errs own y st h k w H hG hk hE
  have hw : wfB k = true := by
    cases hc : wfB k
    · exact absurd (.inr hc) hE
    · rfl
  have hr : ¬ (h < 0 ∨ (st.length : Int) ≤ h) := fun e => hE (.inl e)
  obtain ⟨np, vt, vs, ⟨c0, c1, fz, lt⟩, h2, _⟩ := H.tabs
  obtain ⟨ad0, cp0, rfl⟩ := row_slice h2
  have hm := H.max
  have hne : ¬ y = w.heap.size := by omega
  have hne2 : ¬ y = w.heap.size + 1 := by omega
  have hne3 : ¬ y = w.heap.size + 1 + 1 := by omega
  obtain ⟨i, rfl⟩ : ∃ i : Nat, h = (i : Int) := ⟨h.toNat, by omega⟩
  have hi : i < st.length := by omega
  obtain ⟨t, hst, hgd⟩ := st_at hi
  obtain ⟨G, cG, ad, cR, hrow⟩ := H.row hst
  have HW := fun w => wf_any k w hk
  rw [hw] at HW
  have HF := fun w (H : ModAt own w y st) => mfind_any own y st i t k w H hst (hG.at hst) hk.N
  obtain ⟨a, hinv⟩ := hG.at hst
  have hl32 := hinv.len
  have HINV : Hid (Inv t a) := hinv
  have HM : Hid (ModAt own w y st) := H
  have HR : Hid (MRow w y G st.length cG i ad t cR) := hrow
  have HN : Hid (N3 w (n3W w k) k) := N3.new w k
  have HNB : Hid (Below w.heap.size w (n3W w k)) := n3W_below w k
  have hidx : ∀ p, idx t (oneV k) = some p → p < t.length := fun p hp => idx_lt hp
  have HV : nextP st i k = if k.T ≠ 0 ∧ idx t (oneV k) = none then (nilV, nilV, (7 : Int)) else match (items t (if k.T = 0 then 0 else ((idx t (oneV k)).getD 0 + 1)) false t.length).head? with
    | some p => ((t[p]?.getD dE).1, (t[p]?.getD dE).2, 0)
    | none => (nilV, nilV, 0) := by
    unfold nextP
    rw [if_neg hr, if_neg (by rw [hw]; decide), Int.toNat_natCast, hgd]
    rfl
  have d1 : decide ((i : Int) < 0) = false := decide_eq_false (by omega)
  have d2 : decide ((st.length : Int) ≤ (i : Int)) = false := decide_eq_false (by omega)
  have d3 : decide (st.length ≤ i) = false := decide_eq_false (by omega)
  obtain ⟨sl, hsl⟩ : ∃ sl, sl = st.length := ⟨_, rfl⟩
  rw [← hsl] at *
  generalize idx t (oneV k) = o at *
  obtain ⟨T, N, S⟩ := k
  simp only [valV_mk] at *
  clear H hG hr hw hk hst hgd hrow hinv h2 hsl c0 fz hE
  obtain ⟨c1, _, _, ly, lG⟩ := id HR.out
  have c1' := ((n3W_below w ⟨T, N, S⟩).cell (p := ⟨y, 1, none⟩) lt).trans c1
  rcases (show (T ≠ 0 ∧ o = none) ∨ (T = 0 ∨ ∃ p, T ≠ 0 ∧ o = some p) by
    by_cases c : T = 0
    · exact .inr (.inl c)
    · cases o with
      | none => exact .inl ⟨c, rfl⟩
      | some p => exact .inr (.inr ⟨p, c, rfl⟩)) with ⟨cT, rfl⟩ | hc
  · rw [if_pos ⟨cT, rfl⟩] at HV
    have HV' : Hid (nextP st i ⟨T, N, S⟩ = (nilV, nilV, 7)) := HV
    have bT : (T != 0) = true := by simpa using cT
    clear HV cT
    go_enter Try.func42, Try.ntmps42
    go_wp2_with fail
    refine (HW _).mono ?_; rintro e w1 ⟨rfl, hb⟩
    have hn := HN.out.below hb
    have hB := below_two HNB.out hb
    obtain ⟨k0, k1, k2, _⟩ := hn.k0.cells
    simp only at k0 k1 k2
    have HB : Hid (Below w.heap.size w w1) := hB
    have HN1 : Hid (N3 w w1 ⟨T, N, S⟩) := hn
    have HM1 : Hid (ModAt own w1 y st) := HM.out.below hB
    clear hb hB hn
    go_wp2_with fail
    refine (HF _ HM1.out).mono ?_; rintro e w2 ⟨rfl, hb⟩
    have hB := below_two HB.out hb
    have hn := HN1.out.below hb
    obtain ⟨d0, d1', d2', z0, z1, z2⟩ := hn.r0.cells
    obtain ⟨f0, f1, f2, y0, y1, y2⟩ := hn.r1.cells
    have HB2 : Hid (Below w.heap.size w w2) := hB
    clear hb hB k0 k1 k2 HB HM1 HF HM hn HN1
    simp only [plc]
    go_wp2
    refine bodyPost_ret (v := .tuple #[.agg #[.int .i64 0, .int .u64 0, .string ⟨#[]⟩], .agg #[.int .i64 0, .int .u64 0, .string ⟨#[]⟩], .int .i64 7]) (by simp [results, go_sem, d0, d1', d2', f0, f1, f2]) rfl ?_
    refine ⟨ret_vvi (by rw [HV'.out]; rfl) (by rw [HV'.out]; rfl) (by rw [HV'.out]), ?_⟩
    repeat (first | refine Below.setCell ?_ (by dsimp only; omega) _ | refine below_drewN ?_ _)
    exact HB2.out
  · obtain ⟨fr, hfr, hfrl, HV2⟩ : ∃ fr, ((T = 0 ∧ fr = 0) ∨ ∃ p, (T ≠ 0 ∧ o = some p) ∧ fr = p + 1) ∧ fr ≤ t.length ∧ (nextP st i ⟨T, N, S⟩ = match (items t fr false t.length).head? with
      | some p => ((t[p]?.getD dE).1, (t[p]?.getD dE).2, 0)
      | none => (nilV, nilV, 0)) := by
      rcases hc with c | ⟨p, c, rfl⟩
      · refine ⟨0, .inl ⟨c, rfl⟩, Nat.zero_le _, ?_⟩
        rw [HV, if_neg (fun h => h.1 c), if_pos c]
      · refine ⟨p + 1, .inr ⟨p, ⟨c, rfl⟩, rfl⟩, hidx p rfl, ?_⟩
        rw [HV, if_neg (by rintro ⟨_, h⟩; cases h), if_neg c]
        rfl
    have HVS : Hid (∀ n, items t fr false (n + 1) = [n] → n < t.length → nextP st i ⟨T, N, S⟩ = ((t[n]?.getD dE).1, (t[n]?.getD dE).2, 0)) := by
      intro n h1 h2
      rw [HV2, items_head h1 t.length (by omega)]
    have HVN : Hid (items t fr false t.length = [] → nextP st i ⟨T, N, S⟩ = (nilV, nilV, 0)) := by
      intro h1
      rw [HV2, h1]
      rfl
    clear HV HV2 hc
    rcases hfr with ⟨rfl, rfl⟩ | ⟨p, ⟨cT, rfl⟩, rfl⟩
    · go_enter Try.func42, Try.ntmps42
      go_wp2_with fail
      refine (HW _).mono ?_; rintro e w1 ⟨rfl, hb⟩
      have hn := HN.out.below hb
      have hB := below_two HNB.out hb
      obtain ⟨k0, k1, k2, _⟩ := hn.k0.cells
      simp only at k0 k1 k2
      have HB : Hid (Below w.heap.size w w1 ∧ N3 w w1 ⟨0, N, S⟩) := ⟨hB, hn⟩
      clear hb hB hn
      go_wp2_with fail
      go_loopw [10] (fun j wr => ∃ n : Nat, j = .int .i64 (n : Int) ∧ 0 ≤ n ∧ n ≤ t.length ∧ Hid (items t 0 false n = []) ∧ Hid (Below w.heap.size w wr ∧ N3 w wr ⟨0, N, S⟩)) (fun j _ => 40 - (intOf j).toNat)
      case atStart => exact ⟨0, by go_num, Nat.le_refl _, hfrl, items_low _ _ _ (Nat.le_refl _), HB⟩
      case round =>
        obtain ⟨n, rfl, hfn, hnl, HIT, HBW⟩ := hrel
        obtain ⟨c1, r1, hent, _, _⟩ := HR.out.below HBW.out.1
        obtain ⟨d0, d1', d2', z0, z1, z2⟩ := HBW.out.2.r0.cells
        obtain ⟨f0, f1, f2, y0, y1, y2⟩ := HBW.out.2.r1.cells
        by_cases hlt : n < t.length
        · obtain ⟨en, he⟩ : ∃ en, t[n]? = some en := ⟨_, List.getElem?_eq_getElem hlt⟩
          obtain ⟨g, rfl, hgl, hcR, e0, e1, e2, e3, e4, e5⟩ := hent n _ he
          have hnil := nilT (HINV.out.vals en (List.mem_of_getElem? he)).wf
          have dn : decide ((n : Int) < (t.length : Int)) = true := decide_eq_true (by omega)
          have HTL : Hid (n < t.length) := hlt
          generalize t.length = tl at *
          by_cases cz : en.2.T = 0
          · have HIT2 : Hid (items t 0 false (n + 1) = []) := items_dead HIT.out he (by rw [hnil, cz]; rfl)
            obtain ⟨⟨kT, kN, kS⟩, ⟨vT, vN, vS⟩⟩ := en
            simp only at e0 e1 e2 e3 e4 e5 cz
            subst cz
            clear hent he hnil
            go_wp2_with fail
            go_roundw
            case rel => exact ⟨n + 1, by go_num, by omega, by omega, HIT2, HBW⟩
            case measure => simp [intOf]; omega
          · have HRES : Hid (nextP st i ⟨0, N, S⟩ = (en.1, en.2, 0)) := by
              show _ = _
              rw [HVS.out n (items_live hfn HIT.out he (by rw [hnil, decide_eq_false cz])) HTL.out, he]
              rfl
            obtain ⟨⟨kT, kN, kS⟩, ⟨vT, vN, vS⟩⟩ := en
            simp only at e0 e1 e2 e3 e4 e5 cz
            have bz : (vT != 0) = true := by simpa using cz
            clear hent he hnil cz HVS HVN
            have HB3 : Hid (Below w.heap.size w wr) := HBW.out.1
            clear HBW
            go_wp2_with fail
            go_region
            all_goals go_wp2
            all_goals
              refine bodyPost_ret (v := .tuple #[.agg #[.int .i64 kT, .int .u64 kN, .string ⟨kS.toArray⟩], .agg #[.int .i64 vT, .int .u64 vN, .string ⟨vS.toArray⟩], .int .i64 0]) (by simp [results, go_sem, d0, d1', d2', f0, f1, f2]) rfl ?_
              refine ⟨ret_vvi (by rw [HRES.out]; rfl) (by rw [HRES.out]; rfl) (by rw [HRES.out]), ?_⟩
              repeat (first | refine Below.setCell ?_ (by dsimp only; omega) _ | refine below_drewN ?_ _ | refine Below.drew ?_)
              exact HB3.out
        · have hnt : n = t.length := by omega
          have HRES : Hid (nextP st i ⟨0, N, S⟩ = (nilV, nilV, 0)) := HVN.out (by rw [← hnt]; exact HIT.out)
          rw [← hnt] at r1
          have dn : decide ((n : Int) < (n : Int)) = false := decide_eq_false (by omega)
          have HB3 : Hid (Below w.heap.size w wr) := HBW.out.1
          clear hent HBW hnt hlt HVS HVN
          go_wp2
          refine bodyPost_ret (v := .tuple #[.agg #[.int .i64 0, .int .u64 0, .string ⟨#[]⟩], .agg #[.int .i64 0, .int .u64 0, .string ⟨#[]⟩], .int .i64 0]) (by simp [results, go_sem, d0, d1', d2', f0, f1, f2]) rfl ?_
          refine ⟨ret_vvi (by rw [HRES.out]; rfl) (by rw [HRES.out]; rfl) (by rw [HRES.out]), ?_⟩
          repeat (first | refine Below.setCell ?_ (by dsimp only; omega) _ | refine below_drewN ?_ _)
          exact HB3.out
    · have bT : (T != 0) = true := by simpa using cT
      go_enter Try.func42, Try.ntmps42
      go_wp2_with fail
      refine (HW _).mono ?_; rintro e w1 ⟨rfl, hb⟩
      have hn := HN.out.below hb
      have hB := below_two HNB.out hb
      obtain ⟨k0, k1, k2, _⟩ := hn.k0.cells
      simp only at k0 k1 k2
      have HB1 : Hid (Below w.heap.size w w1 ∧ N3 w w1 ⟨T, N, S⟩) := ⟨hB, hn⟩
      have HM1 : Hid (ModAt own w1 y st) := HM.out.below hB
      clear hb hB hn
      go_wp2_with fail
      refine (HF _ HM1.out).mono ?_; rintro e w2 ⟨rfl, hb⟩
      have HB : Hid (Below w.heap.size w w2 ∧ N3 w w2 ⟨T, N, S⟩) := ⟨below_two HB1.out.1 hb, HB1.out.2.below hb⟩
      have hpl := hidx p rfl
      have hpz : ¬ (p : Int) < 0 := by omega
      simp only [plc]
      clear hb HB1 HM1 HF HM k0 k1 k2
      go_wp2_with fail
      go_loopw [10] (fun j wr => ∃ n : Nat, j = .int .i64 (n : Int) ∧ (p + 1) ≤ n ∧ n ≤ t.length ∧ Hid (items t (p + 1) false n = []) ∧ Hid (Below w.heap.size w wr ∧ N3 w wr ⟨T, N, S⟩)) (fun j _ => 40 - (intOf j).toNat)
      case atStart => exact ⟨(p + 1), by go_num, Nat.le_refl _, hfrl, items_low _ _ _ (Nat.le_refl _), HB⟩
      case round =>
        obtain ⟨n, rfl, hfn, hnl, HIT, HBW⟩ := hrel
        obtain ⟨c1, r1, hent, _, _⟩ := HR.out.below HBW.out.1
        obtain ⟨d0, d1', d2', z0, z1, z2⟩ := HBW.out.2.r0.cells
        obtain ⟨f0, f1, f2, y0, y1, y2⟩ := HBW.out.2.r1.cells
        by_cases hlt : n < t.length
        · obtain ⟨en, he⟩ : ∃ en, t[n]? = some en := ⟨_, List.getElem?_eq_getElem hlt⟩
          obtain ⟨g, rfl, hgl, hcR, e0, e1, e2, e3, e4, e5⟩ := hent n _ he
          have hnil := nilT (HINV.out.vals en (List.mem_of_getElem? he)).wf
          have dn : decide ((n : Int) < (t.length : Int)) = true := decide_eq_true (by omega)
          have HTL : Hid (n < t.length) := hlt
          generalize t.length = tl at *
          by_cases cz : en.2.T = 0
          · have HIT2 : Hid (items t (p + 1) false (n + 1) = []) := items_dead HIT.out he (by rw [hnil, cz]; rfl)
            obtain ⟨⟨kT, kN, kS⟩, ⟨vT, vN, vS⟩⟩ := en
            simp only at e0 e1 e2 e3 e4 e5 cz
            subst cz
            clear hent he hnil
            go_wp2_with fail
            go_roundw
            case rel => exact ⟨n + 1, by go_num, by omega, by omega, HIT2, HBW⟩
            case measure => simp [intOf]; omega
          · have HRES : Hid (nextP st i ⟨T, N, S⟩ = (en.1, en.2, 0)) := by
              show _ = _
              rw [HVS.out n (items_live hfn HIT.out he (by rw [hnil, decide_eq_false cz])) HTL.out, he]
              rfl
            obtain ⟨⟨kT, kN, kS⟩, ⟨vT, vN, vS⟩⟩ := en
            simp only at e0 e1 e2 e3 e4 e5 cz
            have bz : (vT != 0) = true := by simpa using cz
            clear hent he hnil cz HVS HVN
            have HB3 : Hid (Below w.heap.size w wr) := HBW.out.1
            clear HBW
            go_wp2_with fail
            go_region
            all_goals go_wp2
            all_goals
              refine bodyPost_ret (v := .tuple #[.agg #[.int .i64 kT, .int .u64 kN, .string ⟨kS.toArray⟩], .agg #[.int .i64 vT, .int .u64 vN, .string ⟨vS.toArray⟩], .int .i64 0]) (by simp [results, go_sem, d0, d1', d2', f0, f1, f2]) rfl ?_
              refine ⟨ret_vvi (by rw [HRES.out]; rfl) (by rw [HRES.out]; rfl) (by rw [HRES.out]), ?_⟩
              repeat (first | refine Below.setCell ?_ (by dsimp only; omega) _ | refine below_drewN ?_ _ | refine Below.drew ?_)
              exact HB3.out
        · have hnt : n = t.length := by omega
          have HRES : Hid (nextP st i ⟨T, N, S⟩ = (nilV, nilV, 0)) := HVN.out (by rw [← hnt]; exact HIT.out)
          rw [← hnt] at r1
          have dn : decide ((n : Int) < (n : Int)) = false := decide_eq_false (by omega)
          have HB3 : Hid (Below w.heap.size w wr) := HBW.out.1
          clear hent HBW hnt hlt HVS HVN
          go_wp2
          refine bodyPost_ret (v := .tuple #[.agg #[.int .i64 0, .int .u64 0, .string ⟨#[]⟩], .agg #[.int .i64 0, .int .u64 0, .string ⟨#[]⟩], .int .i64 0]) (by simp [results, go_sem, d0, d1', d2', f0, f1, f2]) rfl ?_
          refine ⟨ret_vvi (by rw [HRES.out]; rfl) (by rw [HRES.out]; rfl) (by rw [HRES.out]), ?_⟩
          repeat (first | refine Below.setCell ?_ (by dsimp only; omega) _ | refine below_drewN ?_ _)
          exact HB3.out
end Go.Proofs.Qxb6500292a
