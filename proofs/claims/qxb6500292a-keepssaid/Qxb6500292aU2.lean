import Derived.Test.Qxb6500292aU1
namespace Go.Proofs.Qxb6500292a
open Go.RowKit
open Ieee (double)
set_option linter.unusedVariables false
set_option linter.unusedSimpArgs false

theorem VB.all3 {w : World} {b : Nat} {v : V} (h : VB w b v) (u : V) : VB (((w.setCell ⟨b, 0, none⟩ (.int .i64 u.T)).setCell ⟨b, 1, none⟩ (.int .u64 u.N)).setCell ⟨b, 2, none⟩ (.string ⟨u.S.toArray⟩)) b u := h.all u.T u.N u.S
set_option maxRecDepth 8000 in
set_option maxHeartbeats 3200000 in
theorem mfind_any (own : Nat → Nat) (y : Nat) (st : List Tbl) (h : Nat) (t : Tbl) (k : V) (w : World) (H : ModAt own w y st) (hst : st[h]? = some t) (hg : ∃ a, Inv t a) (hk : k.N < 18446744073709551616) :
    Calls Try.prog 61 #[.pointer (some ⟨y, 0, none⟩), .int .i64 (h : Int), valV k] w fun e w' => e = .returned (.int .i64 (plc (idx t (oneV k)))) ∧ Below w.heap.size w w' := by
  obtain ⟨a, hinv⟩ := hg
  have hl32 := hinv.len
  obtain ⟨G, cG, ad, cR, hrow⟩ := H.row hst
  have hh : h < st.length := (List.getElem?_eq_some_iff.1 hst).1
  have hm := H.max
  have HN := fun w => norm_any k w hk
  have hne : ¬ y = w.heap.size := by have := hrow.ly; omega
  have hne2 : ¬ G = w.heap.size := by have := hrow.lG; omega
  have HR : Hid (MRow w y G st.length cG h ad t cR) := hrow
  generalize hkk : oneV k = kk at *
  generalize st.length = sl at *
  obtain ⟨T, N, S⟩ := k
  obtain ⟨T', N', S'⟩ := kk
  simp only [valV_mk] at *
  clear hinv H hst hrow hkk hk
  go_enter Try.func61, Try.ntmps61
  go_wp2_with fail
  refine (HN _).mono ?_; rintro e w1 ⟨rfl, hb⟩
  have v0 : VB w1 w.heap.size ⟨T, N, S⟩ := (VB.new w ⟨T, N, S⟩).below hb
  have hB := below_two (below_one w _) hb
  obtain ⟨k0, k1, k2, z0, z1, z2⟩ := v0.cells
  simp only at k0 k1 k2
  have HV0 : Hid (VB (((w1.setCell ⟨w.heap.size, 0, none⟩ (.int .i64 T')).setCell ⟨w.heap.size, 1, none⟩ (.int .u64 N')).setCell ⟨w.heap.size, 2, none⟩ (.string ⟨S'.toArray⟩)) w.heap.size ⟨T', N', S'⟩) := v0.all3 ⟨T', N', S'⟩
  have HB0 : Hid (Below w.heap.size w (((w1.setCell ⟨w.heap.size, 0, none⟩ (.int .i64 T')).setCell ⟨w.heap.size, 1, none⟩ (.int .u64 N')).setCell ⟨w.heap.size, 2, none⟩ (.string ⟨S'.toArray⟩))) := set3_below hB (Nat.le_refl _) _ _ _
  clear hb hB v0 HN
  go_wp2_with fail
  generalize ((w1.setCell ⟨w.heap.size, 0, none⟩ (.int .i64 T')).setCell ⟨w.heap.size, 1, none⟩ (.int .u64 N')).setCell ⟨w.heap.size, 2, none⟩ (.string ⟨S'.toArray⟩) = w2 at *
  clear k0 k1 k2 z0 z1 z2
  go_loopw [7] (fun j wr => ∃ n : Nat, j = .int .i64 (n : Int) ∧ n ≤ t.length ∧ Hid (∀ q e', q < n → t[q]? = some e' → e'.1 ≠ ⟨T', N', S'⟩) ∧ Hid (Below w.heap.size w wr ∧ VB wr w.heap.size ⟨T', N', S'⟩)) (fun j _ => t.length - (intOf j).toNat)
  case atStart => exact ⟨0, by go_num, by omega, fun q e' hq => by omega, show _ ∧ _ from ⟨HB0.out, HV0.out⟩⟩
  case round =>
    obtain ⟨n, rfl, hn, HNO, HWR⟩ := hrel
    obtain ⟨q1, q2, hent, _, _⟩ := HR.out.below HWR.out.1
    obtain ⟨k0, k1, k2, _⟩ := HWR.out.2.cells
    simp only at k0 k1 k2
    by_cases hlt : n < t.length
    · obtain ⟨en, he⟩ : ∃ en, t[n]? = some en := ⟨_, List.getElem?_eq_getElem hlt⟩
      obtain ⟨g, rfl, hgl, hcR, e0, e1, e2, _, _, _⟩ := hent n _ he
      obtain ⟨⟨eT, eN, eS⟩, ev⟩ := en
      simp only at e0 e1 e2
      clear hent
      generalize htl : t.length = tl at *
      by_cases ceq : (⟨eT, eN, eS⟩ : V) = ⟨T', N', S'⟩
      · have HI : Hid (idx t ⟨T', N', S'⟩ = some n) := idx_first he ceq HNO.out
        injection ceq with c1 c2 c3
        subst c1 c2 c3
        clear he htl
        go_wp2_with fail
        go_quiet (fail)
        go_wp2
        go_ret
        rw [HI.out]
        exact ⟨rfl, below_drewN HWR.out.1 _⟩
      · have HNO2 : Hid (∀ q e', q < n + 1 → t[q]? = some e' → e'.1 ≠ ⟨T', N', S'⟩) := by
          intro q e' hq hq2
          by_cases c : q = n
          · subst c
            rw [he] at hq2
            cases hq2
            exact ceq
          · exact HNO.out q e' (by omega) hq2
        have hc : ¬ eT = T' ∨ (eT = T' ∧ ¬ eN = N') ∨ (eT = T' ∧ eN = N' ∧ ¬ eS = S') := by
          by_cases c1 : eT = T'
          · by_cases c2 : eN = N'
            · exact .inr (.inr ⟨c1, c2, fun c3 => ceq (by rw [c1, c2, c3])⟩)
            · exact .inr (.inl ⟨c1, c2⟩)
          · exact .inl c1
        have HTL : Hid (t.length = tl) := htl
        clear he htl ceq
        rcases hc with c1 | ⟨rfl, c1⟩ | ⟨rfl, rfl, c1⟩
        all_goals
          try have c2 : ¬ (eN : Int) = (N' : Int) := by omega
          go_wp2_with fail
          go_quiet (fail)
          go_wp2_with fail
          go_roundw
          case rel => exact ⟨n + 1, by go_num, by omega, HNO2, show _ ∧ _ from ⟨below_drewN HWR.out.1 _, by have := HWR.out.2; unfold VB at *; rw [heap_drewN]; exact this⟩⟩
          case measure => simp [intOf]; omega
    · have hnt : n = t.length := by omega
      have HI : Hid (idx t ⟨T', N', S'⟩ = none) := idx_no (by rw [← hnt]; exact HNO.out)
      rw [← hnt] at q2
      clear hent
      generalize t.length = tl at *
      subst hnt
      clear hn hlt
      go_wp2
      go_ret
      rw [HI.out]
      exact ⟨rfl, HWR.out.1⟩
end Go.Proofs.Qxb6500292a
