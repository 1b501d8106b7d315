/-
  Fuel, Out, Ended, Status, wipe.
-/
import Derived.Test.Qxb6500293aGreatRRX6
namespace Go.Proofs.Qxb6500293aGreatRR
open Go.RowKit
set_option linter.unusedVariables false
set_option linter.unusedSimpArgs false

section
variable {own : Nat → Nat} {W : World} {m a nb tp : Nat} {M : Mc}
theorem fuel_any (HV : Vm own W m a nb tp M) : Calls Tryz.prog 23 #[.pointer (some ⟨m, 0, none⟩)] W fun e W' => e = .returned (i64 M.fuel) ∧ W' = W := by
  obtain ⟨vals, L, H⟩ := HV
  have cf := H.cf
  clear H
  go_enter Tryz.func23, Tryz.ntmps23
  go_wp2
  go_ret
  exact ⟨rfl, rfl⟩
theorem ended_any (HV : Vm own W m a nb tp M) : Calls Tryz.prog 41 #[.pointer (some ⟨m, 0, none⟩)] W fun e W' => e = .returned (.int .i64 M.en) ∧ W' = W := by
  obtain ⟨vals, L, H⟩ := HV
  have cf := H.cen
  clear H
  go_enter Tryz.func41, Tryz.ntmps41
  go_wp2
  go_ret
  exact ⟨rfl, rfl⟩
def statusP (M : Mc) (th : Int) : Nat := if th < 0 ∨ (M.th.length : Int) ≤ th then 0 else (M.t th.toNat).st
theorem status_any (HV : Vm own W m a nb tp M) (th : Int) : Calls Tryz.prog 42 #[.pointer (some ⟨m, 0, none⟩), .int .i64 th] W fun e W' => e = .returned (i64 (statusP M th)) ∧ W' = W := by
  obtain ⟨vals, L, H⟩ := HV
  have c9 := H.c9
  have h5 : M.th.length ≤ 5 := by
    have h := congrArg List.length H.pre
    have := H.hL
    rw [List.length_take] at h
    omega
  by_cases h : th < 0 ∨ (M.th.length : Int) ≤ th
  · have HO : Hid (statusP M th = 0) := if_pos h
    have h' : th < 0 ∨ (¬ th < 0 ∧ (M.th.length : Int) ≤ th) := by omega
    clear H h
    generalize M.th.length = n at *
    rcases h' with h | ⟨h1, h⟩
    · have d1 : decide (th < 0) = true := decide_eq_true h
      go_enter Tryz.func42, Tryz.ntmps42
      go_wp2
      go_ret
      exact ⟨by rw [HO.out]; rfl, rfl⟩
    · have d1 : decide (th < 0) = false := decide_eq_false h1
      have d2 : decide ((n : Int) ≤ th) = true := decide_eq_true h
      go_enter Tryz.func42, Tryz.ntmps42
      go_wp2
      go_ret
      exact ⟨by rw [HO.out]; rfl, rfl⟩
  · obtain ⟨i, rfl⟩ : ∃ i : Nat, th = (i : Int) := ⟨th.toNat, by omega⟩
    have hi : i < M.th.length := by omega
    have HO : Hid (statusP M (i : Int) = (M.t i).st) := by show _ = _; unfold statusP; rw [if_neg h, Int.toNat_natCast]
    obtain ⟨e1, h5', _⟩ := H.thr hi
    have ts := (H.ts i h5').1
    rw [e1] at ts
    have d1 : decide ((i : Int) < 0) = false := decide_eq_false (by omega)
    have d2 : decide ((M.th.length : Int) ≤ (i : Int)) = false := decide_eq_false (by omega)
    have d3 : decide (M.th.length ≤ i) = false := decide_eq_false (by omega)
    clear H h
    generalize M.th.length = n at *
    generalize (M.t i).st = s at *
    go_enter Tryz.func42, Tryz.ntmps42
    go_wp2
    go_ret
    exact ⟨by rw [HO.out]; rfl, rfl⟩
end
theorem row_zero {W : World} {e : TypeId} {sz n cp : Nat} {ad : Option Addr} {xs : List Value} (h : W.ownsRow 0 e sz (.slice ad n cp) n xs) : W.ownsRow 0 e sz (.slice ad 0 cp) 0 [] := by
  rcases h.2 with ⟨h1, _⟩ | ⟨g, cap, cur, h1, hb, hgg, hc, hm, hs, ht⟩
  · cases h1
    exact World.ownsRow_nil _ _ _ _
  · cases h1
    exact ⟨by simp, .inr ⟨g, _, cur, rfl, hb, hgg, Nat.zero_le _, hm, hs, by simp⟩⟩
section
variable {own : Nat → Nat} {W : World} {m a nb tp : Nat} {M : Mc} {vals : Nat → Value} {L : List Th}
theorem VmAt.cutRow (H : VmAt own W m a nb tp M vals L) {j : Nat} (hj : j < 7) {ad : Option Addr} {n cp : Nat} (hv : vals j = .slice ad n cp) (M' : Mc) (hM : rowM M' L j = ⟨(rowM M L j).ty, (rowM M L j).sz, 0, []⟩) (hsame : ∀ i, i < 23 → i ≠ j → rowM M' L i = rowM M L i) (hf : M'.fuel = M.fuel) (he : M'.en = M.en) (ht : M'.tb = M.tb) (hn : M'.th = M.th) :
    VmAt own (W.setCell ⟨m, 2 + j, none⟩ (.slice ad 0 cp)) m a nb tp M' (fun i => if i = j then .slice ad 0 cp else vals i) L ∧ ChgV own W (W.setCell ⟨m, 2 + j, none⟩ (.slice ad 0 cp)) := by
  have hl : locM m a j = ⟨m, 2 + j, none⟩ := by unfold locM; rw [if_pos hj]
  rw [← hl]
  obtain ⟨h1, h2, h3⟩ := H.row j (by omega)
  rw [hv] at h2 h3
  obtain ⟨ad', cp', he'⟩ := row_slice h2
  cases he'
  refine H.setRow (by omega) (grownBy_refl W _) M' L ?_ (fun _ _ => rfl) ?_ H.new hsame hf he ht (by rw [hn]) (fun _ _ => ⟨rfl, rfl⟩) H.hL (by rw [hn]; exact H.pre)
  · rw [hM]
    exact row_zero h2
  · intro b hb
    refine h3 b ?_
    cases ad with
    | none => exact hb
    | some p => exact hb
end
theorem row_hi (M M' : Mc) (L : List Th) (j : Nat) (hj : 8 ≤ j) : rowM M' L j = rowM M L j := by
  obtain ⟨k, rfl | rfl | rfl⟩ := row_split j hj
  · rw [row_sk, row_sk]
  · rw [row_fr, row_fr]
  · rw [row_op, row_op]
theorem row_lo (M : Mc) (L : List Th) : rowM M L 0 = rowOf 91 8 prC M.pr ∧ rowM M L 1 = rowOf 165 2 dsC M.ds ∧ rowM M L 2 = rowOf 33 3 valC M.ks ∧ rowM M L 3 = rowOf 169 2 coC M.co ∧ rowM M L 4 = rowOf 69 3 csC M.cs ∧ rowM M L 5 = rowOf 3 1 ixC M.ux ∧ rowM M L 6 = rowOf 95 5 ceC M.ce ∧ rowM M L 7 = rowOf 5 1 byC M.out := ⟨rfl, rfl, rfl, rfl, rfl, rfl, rfl, rfl⟩
/-- Eight rows of which all but one are the same. -/
theorem row_but (M M' : Mc) (L : List Th) (j : Nat) (h0 : j ≠ 0 → M'.pr = M.pr) (h1 : j ≠ 1 → M'.ds = M.ds) (h2 : j ≠ 2 → M'.ks = M.ks) (h3 : j ≠ 3 → M'.co = M.co) (h4 : j ≠ 4 → M'.cs = M.cs) (h5 : j ≠ 5 → M'.ux = M.ux) (h6 : j ≠ 6 → M'.ce = M.ce) (h7 : j ≠ 7 → M'.out = M.out) (i : Nat) (hi : i < 23) (hn : i ≠ j) : rowM M' L i = rowM M L i := by
  by_cases c : 8 ≤ i
  · exact row_hi M M' L i c
  obtain ⟨a0, a1, a2, a3, a4, a5, a6, a7⟩ := row_lo M L
  obtain ⟨b0, b1, b2, b3, b4, b5, b6, b7⟩ := row_lo M' L
  rcases (by omega : i = 0 ∨ i = 1 ∨ i = 2 ∨ i = 3 ∨ i = 4 ∨ i = 5 ∨ i = 6 ∨ i = 7) with rfl | rfl | rfl | rfl | rfl | rfl | rfl | rfl
  · rw [a0, b0, h0 (Ne.symm hn)]
  · rw [a1, b1, h1 (Ne.symm hn)]
  · rw [a2, b2, h2 (Ne.symm hn)]
  · rw [a3, b3, h3 (Ne.symm hn)]
  · rw [a4, b4, h4 (Ne.symm hn)]
  · rw [a5, b5, h5 (Ne.symm hn)]
  · rw [a6, b6, h6 (Ne.symm hn)]
  · rw [a7, b7, h7 (Ne.symm hn)]
set_option maxRecDepth 8000 in
set_option maxHeartbeats 1600000 in
theorem wipe_any {own : Nat → Nat} {W : World} {m a nb tp : Nat} {M : Mc} (HV : Vm own W m a nb tp M) (e : Int) : Calls Tryz.prog 51 #[.pointer (some ⟨m, 0, none⟩), .int .i64 e] W fun en W' => en = .returned (.tuple #[]) ∧ Nx own W m a nb tp (wipeP M e) W' := by
  obtain ⟨vals, L, H⟩ := HV
  obtain ⟨d0, w0, _⟩ := H.row 0 (by omega)
  obtain ⟨ad0, cp0, v0⟩ := row_slice w0
  obtain ⟨d1, w1, _⟩ := H.row 1 (by omega)
  obtain ⟨ad1, cp1, v1⟩ := row_slice w1
  obtain ⟨d2, w2, _⟩ := H.row 2 (by omega)
  obtain ⟨ad2, cp2, v2⟩ := row_slice w2
  obtain ⟨d3, w3, _⟩ := H.row 3 (by omega)
  obtain ⟨ad3, cp3, v3⟩ := row_slice w3
  obtain ⟨d4, w4, _⟩ := H.row 4 (by omega)
  obtain ⟨ad4, cp4, v4⟩ := row_slice w4
  obtain ⟨d5, w5, _⟩ := H.row 5 (by omega)
  obtain ⟨ad5, cp5, v5⟩ := row_slice w5
  obtain ⟨d6, w6, _⟩ := H.row 6 (by omega)
  obtain ⟨ad6, cp6, v6⟩ := row_slice w6
  have c9 := H.c9
  have h0 := H
  obtain ⟨h1, g1⟩ := h0.cutRow (j := 0) (by omega) v0 { M with pr := [] } rfl (row_but _ _ L 0 (fun h => absurd rfl h) (fun _ => rfl) (fun _ => rfl) (fun _ => rfl) (fun _ => rfl) (fun _ => rfl) (fun _ => rfl) (fun _ => rfl)) rfl rfl rfl rfl
  obtain ⟨h2, g2⟩ := h1.cutRow (j := 1) (by omega) v1 { M with pr := [], ds := [] } rfl (row_but _ _ L 1 (fun _ => rfl) (fun h => absurd rfl h) (fun _ => rfl) (fun _ => rfl) (fun _ => rfl) (fun _ => rfl) (fun _ => rfl) (fun _ => rfl)) rfl rfl rfl rfl
  obtain ⟨h3, g3⟩ := h2.cutRow (j := 2) (by omega) v2 { M with pr := [], ds := [], ks := [] } rfl (row_but _ _ L 2 (fun _ => rfl) (fun _ => rfl) (fun h => absurd rfl h) (fun _ => rfl) (fun _ => rfl) (fun _ => rfl) (fun _ => rfl) (fun _ => rfl)) rfl rfl rfl rfl
  obtain ⟨h4, g4⟩ := h3.cutRow (j := 3) (by omega) v3 { M with pr := [], ds := [], ks := [], co := [] } rfl (row_but _ _ L 3 (fun _ => rfl) (fun _ => rfl) (fun _ => rfl) (fun h => absurd rfl h) (fun _ => rfl) (fun _ => rfl) (fun _ => rfl) (fun _ => rfl)) rfl rfl rfl rfl
  obtain ⟨h5, g5⟩ := h4.cutRow (j := 4) (by omega) v4 { M with pr := [], ds := [], ks := [], co := [], cs := [] } rfl (row_but _ _ L 4 (fun _ => rfl) (fun _ => rfl) (fun _ => rfl) (fun _ => rfl) (fun h => absurd rfl h) (fun _ => rfl) (fun _ => rfl) (fun _ => rfl)) rfl rfl rfl rfl
  obtain ⟨h6, g6⟩ := h5.cutRow (j := 5) (by omega) v5 { M with pr := [], ds := [], ks := [], co := [], cs := [], ux := [] } rfl (row_but _ _ L 5 (fun _ => rfl) (fun _ => rfl) (fun _ => rfl) (fun _ => rfl) (fun _ => rfl) (fun h => absurd rfl h) (fun _ => rfl) (fun _ => rfl)) rfl rfl rfl rfl
  obtain ⟨h7, g7⟩ := h6.cutRow (j := 6) (by omega) v6 { M with pr := [], ds := [], ks := [], co := [], cs := [], ux := [], ce := [] } rfl (row_but _ _ L 6 (fun _ => rfl) (fun _ => rfl) (fun _ => rfl) (fun _ => rfl) (fun _ => rfl) (fun _ => rfl) (fun h => absurd rfl h) (fun _ => rfl)) rfl rfl rfl rfl
  obtain ⟨h8, g8⟩ := h7.setm 9 (.slice (some ⟨a, 0, none⟩) 0 5) (by omega) { M with pr := [], ds := [], ks := [], co := [], cs := [], ux := [], ce := [], th := [] } (fun j hj => by
    by_cases c : 8 ≤ j
    · exact row_hi _ _ L j c
    · exact row_low _ _ L L ⟨rfl, rfl, rfl, rfl, rfl, rfl, rfl, rfl⟩ j (by omega)) rfl rfl rfl rfl rfl
  obtain ⟨h9, g9⟩ := h8.setm 12 (.int .i64 e) (by omega) (wipeP M e) (fun j hj => by
    by_cases c : 8 ≤ j
    · exact row_hi _ _ L j c
    · exact row_low _ _ L L ⟨rfl, rfl, rfl, rfl, rfl, rfl, rfl, rfl⟩ j (by omega)) rfl rfl rfl rfl rfl
  have tr : ∀ j, j < W.heap.size → own j = own j := fun _ _ => rfl
  have gg := (((((((g1.trans g2 (fun _ _ => rfl)).trans g3 (fun _ _ => rfl)).trans g4 (fun _ _ => rfl)).trans g5 (fun _ _ => rfl)).trans g6 (fun _ _ => rfl)).trans g7 (fun _ _ => rfl)).trans g8 (fun _ _ => rfl)).trans g9 (fun _ _ => rfl)
  have HN : Hid (Nx own W m a nb tp (wipeP M e) _) := ⟨own, fun _ _ => rfl, ⟨_, _, h9⟩, gg⟩
  have hz := H.mz
  have cen := H.cen
  have e0 : W.cell? ⟨m, 2, none⟩ = some (.slice ad0 (rowM M L 0).n cp0) := by rw [← v0]; exact d0
  have e1 : W.cell? ⟨m, 3, none⟩ = some (.slice ad1 (rowM M L 1).n cp1) := by rw [← v1]; exact d1
  have e2 : W.cell? ⟨m, 4, none⟩ = some (.slice ad2 (rowM M L 2).n cp2) := by rw [← v2]; exact d2
  have e3 : W.cell? ⟨m, 5, none⟩ = some (.slice ad3 (rowM M L 3).n cp3) := by rw [← v3]; exact d3
  have e4 : W.cell? ⟨m, 6, none⟩ = some (.slice ad4 (rowM M L 4).n cp4) := by rw [← v4]; exact d4
  have e5 : W.cell? ⟨m, 7, none⟩ = some (.slice ad5 (rowM M L 5).n cp5) := by rw [← v5]; exact d5
  have e6 : W.cell? ⟨m, 8, none⟩ = some (.slice ad6 (rowM M L 6).n cp6) := by rw [← v6]; exact d6
  have z0 := hz 2
  have z1 := hz 3
  have z2 := hz 4
  have z3 := hz 5
  have z4 := hz 6
  have z5 := hz 7
  have z6 := hz 8
  have z7 := hz 9
  have z8 := hz 12
  generalize (rowM M L 0).n = n0 at *
  generalize (rowM M L 1).n = n1 at *
  generalize (rowM M L 2).n = n2 at *
  generalize (rowM M L 3).n = n3 at *
  generalize (rowM M L 4).n = n4 at *
  generalize (rowM M L 5).n = n5 at *
  generalize (rowM M L 6).n = n6 at *
  generalize M.th.length = nt at *
  clear H h0 h1 h2 h3 h4 h5 h6 h7 h8 h9 g1 g2 g3 g4 g5 g6 g7 g8 g9 gg tr hz d0 w0 v0 d1 w1 v1 d2 w2 v2 d3 w3 v3 d4 w4 v4 d5 w5 v5 d6 w6 v6
  go_enter Tryz.func51, Tryz.ntmps51
  go_wp2
  go_end0
  exact ⟨rfl, HN.out⟩
end Go.Proofs.Qxb6500293aGreatRR
