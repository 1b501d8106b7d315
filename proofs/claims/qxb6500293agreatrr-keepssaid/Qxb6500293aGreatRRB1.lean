/-
  checkVals walked.
-/
import Derived.Test.Qxb6500293aGreatRRA3
namespace Go.Proofs.Qxb6500293aGreatRR
open Go.RowKit
open Ieee (double)
set_option linter.unusedVariables false
set_option linter.unusedSimpArgs false

/-- A row of the machine's own, whole. -/
theorem Vm.rowAll {α : Type} {f : α → List Value} {sz : Nat} {ty : TypeId} {l : List α} {own : Nat → Nat} {W : World} {m a nb tp : Nat} {M : Mc} (HV : Vm own W m a nb tp M) (j : Nat) (hj : j < 7) (hl : ∀ L, rowM M L j = rowOf ty sz f l) (hf : ∀ a, (f a).length = sz) (hz : 0 < sz) :
    ∃ ad cp, W.cell? ⟨m, 2 + j, none⟩ = some (.slice ad l.length cp) ∧ ∀ k x, l[k]? = some x → ∃ b, ad = some ⟨b, 0, none⟩ ∧ b < W.heap.size ∧ l.length ≤ cp ∧ ∀ q u, (f x)[q]? = some u → W.cell? ⟨b, k * sz + q, none⟩ = some u := by
  obtain ⟨ad, cp, h1⟩ := HV.len j hj
  have h1 := h1 []
  rw [hl []] at h1
  have h1 : W.cell? ⟨m, 2 + j, none⟩ = some (.slice ad l.length cp) := h1
  refine ⟨ad, cp, h1, fun k x hx => ?_⟩
  obtain ⟨b, cp', g1, g2, g3, g4, g5, g6⟩ := HV.elem j hj hl hf hz hx
  rw [h1] at g1
  injection g1 with g1
  have e1 : ad = some ⟨b, 0, none⟩ := by cases g1; rfl
  have e2 : cp = cp' := by cases g1; rfl
  exact ⟨b, e1, g3, by rw [e2]; exact g2, g6⟩
section
variable {own : Nat → Nat} {W : World} {m a nb tp : Nat} {M : Mc}
theorem Vm.skQ (HV : Vm own W m a nb tp M) {i : Nat} (hi : i < M.th.length) : ∃ ad cp, W.cell? ⟨a, i * 5 + 2, none⟩ = some (.slice ad (M.t i).sk.length cp) ∧ ∀ k v, (M.t i).sk[k]? = some v → ∃ b, ad = some ⟨b, 0, none⟩ ∧ b < W.heap.size ∧ (M.t i).sk.length ≤ cp ∧ W.cell? ⟨b, k * 3, none⟩ = some (.int .i64 v.T) ∧ W.cell? ⟨b, k * 3 + 1, none⟩ = some (.int .u64 (v.N : Int)) ∧ W.cell? ⟨b, k * 3 + 2, none⟩ = some (.string ⟨v.S.toArray⟩) := by
  obtain ⟨vals, L, H⟩ := HV
  obtain ⟨s2, srow, scol⟩ := H.skRow hi
  obtain ⟨ad, cp, hv⟩ := row_slice srow
  refine ⟨ad, cp, by rw [s2, hv], fun k v hk => ?_⟩
  obtain ⟨sb, scp, sv, scl, slt, sfz, scell⟩ := row_elem valC_len (by decide) srow (j := k) (x := v) hk
  rw [hv] at sv
  have e1 : ad = some ⟨sb, 0, none⟩ := by cases sv; rfl
  have e2 : cp = scp := by cases sv; rfl
  exact ⟨sb, e1, slt, by rw [e2]; exact scl, scell 0 _ rfl, scell 1 _ rfl, scell 2 _ rfl⟩
theorem Vm.opQ (HV : Vm own W m a nb tp M) {i : Nat} (hi : i < M.th.length) : ∃ ad cp, W.cell? ⟨a, i * 5 + 4, none⟩ = some (.slice ad (M.t i).op.length cp) ∧ ∀ k c, (M.t i).op[k]? = some c → ∃ b, ad = some ⟨b, 0, none⟩ ∧ b < W.heap.size ∧ (M.t i).op.length ≤ cp ∧ W.cell? ⟨b, k, none⟩ = some (i64 c) := by
  obtain ⟨vals, L, H⟩ := HV
  obtain ⟨s2, srow, scol⟩ := H.opRow hi
  obtain ⟨ad, cp, hv⟩ := row_slice srow
  refine ⟨ad, cp, by rw [s2, hv], fun k v hk => ?_⟩
  obtain ⟨sb, scp, sv, scl, slt, sfz, scell⟩ := row_elem ixC_len (by decide) srow (j := k) (x := v) hk
  rw [hv] at sv
  have e1 : ad = some ⟨sb, 0, none⟩ := by cases sv; rfl
  have e2 : cp = scp := by cases sv; rfl
  have := scell 0 _ rfl
  rw [Nat.mul_one, Nat.add_zero] at this
  exact ⟨sb, e1, slt, by rw [e2]; exact scl, this⟩
end
set_option maxRecDepth 8000 in
set_option maxHeartbeats 4000000 in
theorem checkVals_any {own : Nat → Nat} {W : World} {m a nb tp : Nat} {M : Mc} (HV : Vm own W m a nb tp M) (hA : Alive M none) :
    Calls Tryz.prog 48 #[.pointer (some ⟨m, 0, none⟩)] W fun e w' => e = .returned (.bool true) ∧ Below W.heap.size W w' := by
  have hcs : M.cs.length ≤ 100000 := by have := hA.cl.cs24; omega
  have HVAL : Hid (∀ w, Below W.heap.size W w → ∀ v, okV M v → Calls Tryz.prog 58 #[.pointer (some ⟨m, 0, none⟩), valV v] w fun e w' => e = .returned (.bool true) ∧ Below w.heap.size w w') := by
    intro w hb v hv
    have := valid_any (HV.below hb) v (wf_ok hv.wf hv.2) hcs
    rw [hv.1] at this
    exact this
  obtain ⟨ka, kc, k1q, k2⟩ := HV.rowAll 2 (by omega) (fun L => (row_lo M L).2.2.1) valC_len (by decide)
  obtain ⟨ea, ec, e1q, e2⟩ := HV.rowAll 6 (by omega) (fun L => (row_lo M L).2.2.2.2.2.2.1) ceC_len (by decide)
  obtain ⟨c9, c5⟩ := HV.c9V
  have hml := HV.hdC.2.2.1
  have hal := HV.hdC.2.2.2
  have hlk : M.ks.length ≤ 40000 := hA.st.lks
  have hle : M.ce.length ≤ 6120 := hA.ux.2
  have k1 : W.cell? ⟨m, 4, none⟩ = some (.slice ka M.ks.length kc) := k1q
  have e1 : W.cell? ⟨m, 8, none⟩ = some (.slice ea M.ce.length ec) := e1q
  have HK : Hid (∀ k x, M.ks[k]? = some x → ∃ b, ka = some ⟨b, 0, none⟩ ∧ b < W.heap.size ∧ M.ks.length ≤ kc ∧ ∀ q u, (valC x)[q]? = some u → W.cell? ⟨b, k * 3 + q, none⟩ = some u) := k2
  have HE : Hid (∀ k x, M.ce[k]? = some x → ∃ b, ea = some ⟨b, 0, none⟩ ∧ b < W.heap.size ∧ M.ce.length ≤ ec ∧ ∀ q u, (ceC x)[q]? = some u → W.cell? ⟨b, k * 5 + q, none⟩ = some u) := e2
  have HT : Hid (Vm own W m a nb tp M ∧ Alive M none) := ⟨HV, hA⟩
  have HKL : Hid (∀ k x, M.ks[k]? = some x → k < M.ks.length) := fun k x h => (List.getElem?_eq_some_iff.1 h).1
  clear HV hA k2 e2 hcs k1q e1q
  obtain ⟨kl, hkl⟩ : ∃ kl, kl = M.ks.length := ⟨_, rfl⟩
  rw [← hkl] at k1 hlk HK
  obtain ⟨el, hel⟩ : ∃ el, el = M.ce.length := ⟨_, rfl⟩
  rw [← hel] at e1 hle HE
  obtain ⟨tl, htl⟩ : ∃ tl, tl = M.th.length := ⟨_, rfl⟩
  rw [← htl] at c9 c5
  have HLN : Hid (kl = M.ks.length ∧ el = M.ce.length ∧ tl = M.th.length) := ⟨hkl, hel, htl⟩
  clear hkl hel htl HKL
  go_enter Tryz.func48, Tryz.ntmps48
  go_wp2_with fail
  go_loopw [18] (fun kv wr => ∃ k : Nat, kv = .int .i64 (k : Int) ∧ k ≤ kl ∧ Hid (Below W.heap.size W wr)) (fun kv _ => kl - (intOf kv).toNat)
  case atStart => exact ⟨0, rfl, by omega, Below.refl _ _⟩
  case round =>
    obtain ⟨k, rfl, hk, HB⟩ := hrel
    by_cases hkl : k < kl
    · obtain ⟨v, hv⟩ : ∃ v, M.ks[k]? = some v := ⟨_, List.getElem?_eq_getElem (by have := HLN.out.1; omega)⟩
      obtain ⟨b, hb1, hb2, hb3, hb4⟩ := HK.out k v hv
      have hvm := List.mem_of_getElem? hv
      have hok := HT.out.2.va.ks v hvm
      have hT := HT.out.2.st.ks v hvm
      have q0 := (HB.out.cell (p := ⟨b, k * 3, none⟩) hb2).trans (hb4 0 _ rfl)
      have q1 := (HB.out.cell (p := ⟨b, k * 3 + 1, none⟩) hb2).trans (hb4 1 _ rfl)
      have q2 := (HB.out.cell (p := ⟨b, k * 3 + 2, none⟩) hb2).trans (hb4 2 _ rfl)
      have hbl : b < wr.heap.size := Nat.lt_of_lt_of_le hb2 HB.out.size
      obtain ⟨T, N, S⟩ := v
      have HC := fun w hb => HVAL.out w hb ⟨T, N, S⟩ hok
      rw [valV_mk] at HC
      have HQ : Hid (∀ w, Below W.heap.size W w → Calls Tryz.prog 58 #[.pointer (some ⟨m, 0, none⟩), .agg #[.int .i64 T, .int .u64 (N : Int), .string ⟨S.toArray⟩]] w fun e w' => e = .returned (.bool true) ∧ Below w.heap.size w w') := HC
      simp only at hT q0 q1 q2
      have dl : decide ((k : Int) < (kl : Int)) = true := decide_eq_true (by omega)
      subst hb1
      clear hv hb4 hvm hok HC
      have HQ1 := HQ.out (wr.alloc (vBox T N S)) (below_two HB.out (below_one _ _))
      have HBN : Hid (Below W.heap.size W (wr.alloc (vBox T N S))) := below_two HB.out (below_one _ _)
      clear HQ
      rcases hT with rfl | rfl
      · go_wp2_with fail
        refine HQ1.mono ?_; rintro e w2 ⟨rfl, hb⟩
        have HB2 : Hid (Below W.heap.size W w2) := below_two HBN.out hb
        clear hb HQ1
        go_wp2_with fail
        go_roundw
        case rel => exact ⟨k + 1, by go_num, by omega, HB2⟩
        case measure => simp [intOf]; omega
      · go_wp2_with fail
        refine HQ1.mono ?_; rintro e w2 ⟨rfl, hb⟩
        have HB2 : Hid (Below W.heap.size W w2) := below_two HBN.out hb
        clear hb HQ1
        go_wp2_with fail
        go_roundw
        case rel => exact ⟨k + 1, by go_num, by omega, HB2⟩
        case measure => simp [intOf]; omega
    · have hke : k = kl := by omega
      subst hke
      have e1r := (HB.out.cell (p := ⟨m, 8, none⟩) hml).trans e1
      have hmlr : m < wr.heap.size := Nat.lt_of_lt_of_le hml HB.out.size
      clear HK k1
      go_wp2_with fail
      go_loopw [41] (fun kv wr => ∃ k : Nat, kv = .int .i64 (k : Int) ∧ k ≤ el ∧ Hid (Below W.heap.size W wr)) (fun kv _ => el - (intOf kv).toNat)
      case atStart => exact ⟨0, rfl, by omega, HB⟩
      case round =>
        obtain ⟨q, rfl, hq, HB⟩ := hrel
        by_cases hql : q < el
        · obtain ⟨x, hx⟩ : ∃ x, M.ce[q]? = some x := ⟨_, List.getElem?_eq_getElem (by have := HLN.out.2.1; omega)⟩
          obtain ⟨b, hb1, hb2, hb3, hb4⟩ := HE.out q x hx
          have hok := HT.out.2.va.ce x (List.mem_of_getElem? hx)
          have q0 := (HB.out.cell (p := ⟨b, q * 5, none⟩) hb2).trans (hb4 0 _ rfl)
          have q1 := (HB.out.cell (p := ⟨b, q * 5 + 1, none⟩) hb2).trans (hb4 1 _ rfl)
          have q2 := (HB.out.cell (p := ⟨b, q * 5 + 2, none⟩) hb2).trans (hb4 2 _ rfl)
          have q3 := (HB.out.cell (p := ⟨b, q * 5 + 3, none⟩) hb2).trans (hb4 3 _ rfl)
          have q4 := (HB.out.cell (p := ⟨b, q * 5 + 4, none⟩) hb2).trans (hb4 4 _ rfl)
          have hbl : b < wr.heap.size := Nat.lt_of_lt_of_le hb2 HB.out.size
          obtain ⟨xt, xa, T, N, S⟩ := x
          have HC := fun w hb => HVAL.out w hb ⟨T, N, S⟩ hok
          rw [valV_mk] at HC
          have HQ1 := HC (wr.alloc (.cells #[.int .i64 xt, i64 xa, .int .i64 T, .int .u64 (N : Int), .string ⟨S.toArray⟩] 95)) (below_two HB.out (below_one _ _))
          have HBN : Hid (Below W.heap.size W (wr.alloc (.cells #[.int .i64 xt, i64 xa, .int .i64 T, .int .u64 (N : Int), .string ⟨S.toArray⟩] 95))) := below_two HB.out (below_one _ _)
          simp only at q0 q1 q2 q3 q4
          have dl : decide ((q : Int) < (el : Int)) = true := decide_eq_true (by omega)
          subst hb1
          clear hx hb4 hok HC
          go_wp2_with fail
          refine HQ1.mono ?_; rintro e w2 ⟨rfl, hb⟩
          have HB2 : Hid (Below W.heap.size W w2) := below_two HBN.out hb
          clear hb HQ1
          go_wp2_with fail
          go_roundw
          case rel => exact ⟨q + 1, by go_num, by omega, HB2⟩
          case measure => simp [intOf]; omega
        · have hqe : q = el := by omega
          subst hqe
          have c9r := (HB.out.cell (p := ⟨m, 9, none⟩) hml).trans c9
          have hmlr : m < wr.heap.size := Nat.lt_of_lt_of_le hml HB.out.size
          clear HE e1
          go_wp2_with fail
          go_loopw [57] (fun kv wr => ∃ k : Nat, kv = .int .i64 (k : Int) ∧ k ≤ tl ∧ Hid (Below W.heap.size W wr)) (fun kv _ => tl - (intOf kv).toNat)
          case atStart => exact ⟨0, rfl, by omega, HB⟩
          case round =>
            obtain ⟨i, rfl, hi, HB⟩ := hrel
            by_cases hil : i < tl
            · have hit : i < M.th.length := by have := HLN.out.2.2; omega
              obtain ⟨sa, sc, s1, s2⟩ := (HT.out.1.below HB.out).skQ hit
              have hsb := sk_bound HT.out.2 hit
              have c9r := (HB.out.cell (p := ⟨m, 9, none⟩) hml).trans c9
              have hmlr : m < wr.heap.size := Nat.lt_of_lt_of_le hml HB.out.size
              have halr : a < wr.heap.size := Nat.lt_of_lt_of_le hal HB.out.size
              have HS : Hid (∀ k v, (M.t i).sk[k]? = some v → ∃ b, sa = some ⟨b, 0, none⟩ ∧ b < wr.heap.size ∧ (M.t i).sk.length ≤ sc ∧ wr.cell? ⟨b, k * 3, none⟩ = some (.int .i64 v.T) ∧ wr.cell? ⟨b, k * 3 + 1, none⟩ = some (.int .u64 (v.N : Int)) ∧ wr.cell? ⟨b, k * 3 + 2, none⟩ = some (.string ⟨v.S.toArray⟩)) := s2
              have dl : decide ((i : Int) < (tl : Int)) = true := decide_eq_true (by omega)
              obtain ⟨sl, hsl⟩ : ∃ sl, sl = (M.t i).sk.length := ⟨_, rfl⟩
              rw [← hsl] at s1 hsb HS
              have HSL : Hid (sl = (M.t i).sk.length ∧ M.t i ∈ M.th) := ⟨hsl, Mc.t_mem hit⟩
              have HW0 : Hid (Below wr.heap.size wr wr) := Below.refl _ _
              clear s2 hsl hit
              obtain ⟨w0, hw0⟩ : ∃ w0, w0 = wr := ⟨_, rfl⟩
              have HW0 : Hid (Below w0.heap.size w0 wr) := by rw [hw0]; exact Below.refl _ _
              have HB0 : Hid (Below W.heap.size W w0) := by rw [hw0]; exact HB.out
              rw [← hw0] at HS
              clear hw0 HB
              go_wp2_with fail
              go_loopw [69] (fun kv wr => ∃ k : Nat, kv = .int .i64 (k : Int) ∧ k ≤ sl ∧ Hid (Below w0.heap.size w0 wr)) (fun kv _ => sl - (intOf kv).toNat)
              case atStart => exact ⟨0, rfl, by omega, HW0⟩
              case round =>
                obtain ⟨k, rfl, hk, HB⟩ := hrel
                by_cases hkl : k < sl
                · obtain ⟨v, hv⟩ : ∃ v, (M.t i).sk[k]? = some v := ⟨_, List.getElem?_eq_getElem (by have := HSL.out.1; omega)⟩
                  obtain ⟨b, hb1, hb2, hb3, hb4, hb5, hb6⟩ := HS.out k v hv
                  have hok := HT.out.2.va.sk _ HSL.out.2 v (List.mem_of_getElem? hv)
                  have q0 := (HB.out.cell (p := ⟨b, k * 3, none⟩) hb2).trans hb4
                  have q1 := (HB.out.cell (p := ⟨b, k * 3 + 1, none⟩) hb2).trans hb5
                  have q2 := (HB.out.cell (p := ⟨b, k * 3 + 2, none⟩) hb2).trans hb6
                  have hbl : b < wr.heap.size := Nat.lt_of_lt_of_le hb2 HB.out.size
                  obtain ⟨T, N, S⟩ := v
                  have HC := fun w hb => HVAL.out w hb ⟨T, N, S⟩ hok
                  rw [valV_mk] at HC
                  have HQ1 := HC (wr.alloc (vBox T N S)) (below_two HB0.out (below_two HB.out (below_one _ _)))
                  have HBN : Hid (Below w0.heap.size w0 (wr.alloc (vBox T N S))) := below_two HB.out (below_one _ _)
                  simp only at q0 q1 q2
                  have dk : decide ((k : Int) < (sl : Int)) = true := decide_eq_true (by omega)
                  subst hb1
                  clear hv hb4 hb5 hb6 hok HC
                  go_wp2_with fail
                  refine HQ1.mono ?_; rintro e w2 ⟨rfl, hb⟩
                  have HB2 : Hid (Below w0.heap.size w0 w2) := below_two HBN.out hb
                  clear hb HQ1
                  go_wp2_with fail
                  go_roundw
                  case rel => exact ⟨k + 1, by go_num, by omega, HB2⟩
                  case measure => simp [intOf]; omega
                · have hke : k = sl := by omega
                  subst hke
                  have HBE : Hid (Below W.heap.size W wr) := below_two HB0.out HB.out
                  clear HS HB
                  go_wp2_with fail
                  go_roundw
                  case rel => exact ⟨i + 1, by go_num, by omega, HBE⟩
                  case measure => simp [intOf]; omega
            · have hie : i = tl := by omega
              subst hie
              go_wp2_with fail
              go_ret
              exact ⟨rfl, HB.out⟩
end Go.Proofs.Qxb6500293aGreatRR
