/-
  The builtin next walked.
-/
import Derived.Test.Qxb6500293aGreatRRY34
namespace Go.Proofs.Qxb6500293aGreatRR
open Go.RowKit
open Ieee (double)
set_option linter.unusedVariables false
set_option linter.unusedSimpArgs false

set_option maxRecDepth 16000 in
set_option maxHeartbeats 8000000 in
theorem b_next {own : Nat → Nat} {W : World} {m a nb tp : Nat} {M : Mc} (HV : Vm own W m a nb tp M) (i : Nat) {ab ao : Nat} {a0 a1 : V} (hal : ab < W.heap.size) (h0 : Arg W ab ao a0) (h1 : Arg W ab (ao + 3) a1) (hv : a0.T = 4 → a0.N ≤ 100000) (hok : a1.Ok) :
    Calls Tryz.prog 101 #[.pointer (some ⟨m, 0, none⟩), .pointer (some ⟨ab, ao, none⟩)] W (OuEf own W m a nb tp i (builtP M 7 a0 a1) valR) := by
  have HO1 : Hid (builtP M 7 a0 a1 = if a0.T ≠ 4 then Go.Proofs.Qxb6500293aGreatRR.thr M (nilV, nilV) (str mNext) else if (nextP M.tb (a0.N : Int) a1).2.2 ≠ 0 then Go.Proofs.Qxb6500293aGreatRR.thr M (nilV, nilV) (str mNext) else ok M ((nextP M.tb (a0.N : Int) a1).1, (nextP M.tb (a0.N : Int) a1).2.1)) := rfl
  have R1 := Rm.box2 HV i
  obtain ⟨q0, q1, hml⟩ := HV.cellM (Below.refl W.heap.size W)
  obtain ⟨c0, c1, c2⟩ := h0
  obtain ⟨d0, d1, d2⟩ := h1
  obtain ⟨T0, N0, S0⟩ := a0
  obtain ⟨T1, N1, S1⟩ := a1
  simp only at *
  by_cases t4 : T0 = 4
  · have HTO := tabOf_ok ⟨T0, N0, S0⟩ mNext (box2 W) t4 (by have := hv t4; show N0 ≤ _; omega)
    rw [valV_mk] at HTO
    unfold mNext at HTO
    have HO2 : Hid (builtP M 7 ⟨T0, N0, S0⟩ ⟨T1, N1, S1⟩ = if (nextP M.tb (N0 : Int) ⟨T1, N1, S1⟩).2.2 ≠ 0 then Go.Proofs.Qxb6500293aGreatRR.thr M (nilV, nilV) (str mNext) else ok M ((nextP M.tb (N0 : Int) ⟨T1, N1, S1⟩).1, (nextP M.tb (N0 : Int) ⟨T1, N1, S1⟩).2.1)) := by rw [HO1.out]; exact if_neg (by simp [t4])
    have HNX : Hid (∀ w B, Rm own W m a nb tp i B M w → Calls Tryz.prog 115 #[.pointer (some ⟨tp, 0, none⟩), .int .i64 (N0 : Int), valV ⟨T1, N1, S1⟩] w fun e w' => e = .returned (.tuple #[valV (nextP M.tb (N0 : Int) ⟨T1, N1, S1⟩).1, valV (nextP M.tb (N0 : Int) ⟨T1, N1, S1⟩).2.1, .int .i64 (nextP M.tb (N0 : Int) ⟨T1, N1, S1⟩).2.2]) ∧ Below w.heap.size w w') := by
      intro w B h
      obtain ⟨own1, hv, _⟩ := h.vm
      exact rnext own1 tp M.tb (N0 : Int) ⟨T1, N1, S1⟩ w hv.tabR.1 hv.tabR.2.1 hok
    generalize nextP M.tb (N0 : Int) ⟨T1, N1, S1⟩ = r at *
    obtain ⟨⟨gT, gN, gS⟩, ⟨hT, hN, hS⟩, ge⟩ := r
    simp only [valV_mk] at HNX HO2
    subst t4
    clear HO1 HV hv hok q0
    have HQ : Hid ((box2 W).cell? ⟨m, 1, none⟩ = some (.pointer (some ⟨tp, 0, none⟩)) ∧ (box2 W).cell? ⟨ab, ao + 3, none⟩ = some (.int .i64 T1) ∧ (box2 W).cell? ⟨ab, ao + 3 + 1, none⟩ = some (.int .u64 (N1 : Int)) ∧ (box2 W).cell? ⟨ab, ao + 3 + 2, none⟩ = some (.string ⟨S1.toArray⟩)) := by
      have hbb : Below W.heap.size W (box2 W) := below_two (below_one _ _) (below_one _ _)
      exact ⟨(hbb.cell (p := ⟨m, 1, none⟩) hml).trans q1, (hbb.cell (p := ⟨ab, ao + 3, none⟩) hal).trans d0, (hbb.cell (p := ⟨ab, ao + 3 + 1, none⟩) hal).trans d1, (hbb.cell (p := ⟨ab, ao + 3 + 2, none⟩) hal).trans d2⟩
    have HSB : Hid (W.heap.size + 2 = (box2 W).heap.size) := by show _ = _; simp
    clear q1 d0 d1 d2
    go_enter Tryz.func101, Tryz.ntmps101
    go_wp2_with fail
    refine HTO.mono ?_; rintro e W0 ⟨rfl, hb0⟩
    have RW0 := R1.below hb0
    have hsz0 := hb0.size
    have hszb := HSB.out
    have K1 := (hb0.cell (p := ⟨m, 1, none⟩) (by show m < _; omega)).trans HQ.out.1
    have K2 := (hb0.cell (p := ⟨ab, ao + 3, none⟩) (by show ab < _; omega)).trans HQ.out.2.1
    have K3 := (hb0.cell (p := ⟨ab, ao + 3 + 1, none⟩) (by show ab < _; omega)).trans HQ.out.2.2.1
    have K4 := (hb0.cell (p := ⟨ab, ao + 3 + 2, none⟩) (by show ab < _; omega)).trans HQ.out.2.2.2
    have hml0 : m < W0.heap.size := by omega
    have hlt0 : ab < W0.heap.size := by omega
    have hW0 : W.heap.size + 2 ≤ W0.heap.size := by omega
    clear c0 c1 c2 hb0 HTO R1 hszb hsz0
    go_upto_region 2 with fail
    go_cut [7, 8, 9] from 10 (fun p q e wx => e = .int .i64 ge ∧ ∃ b1 b2, p = .pointer (some ⟨b1, 0, none⟩) ∧ q = .pointer (some ⟨b2, 0, none⟩) ∧ ((wx.cell? ⟨b1, 0, none⟩ = some (.int .i64 gT) ∧ wx.cell? ⟨b1, 1, none⟩ = some (.int .u64 gN) ∧ wx.cell? ⟨b1, 2, none⟩ = some (.string ⟨gS.toArray⟩)) ∧ (wx.cell? ⟨b2, 0, none⟩ = some (.int .i64 hT) ∧ wx.cell? ⟨b2, 1, none⟩ = some (.int .u64 hN) ∧ wx.cell? ⟨b2, 2, none⟩ = some (.string ⟨hS.toArray⟩))) ∧ (W0.heap.size ≤ b1 ∧ W0.heap.size ≤ b2) ∧ Hid (Below W0.heap.size W0 wx))
    case first =>
      have nr0 : ¬ m = W0.heap.size := by omega
      have nr1 : ¬ m = W0.heap.size + 1 := by omega
      have nn0 : ¬ ab = W0.heap.size := by omega
      have nn1 : ¬ ab = W0.heap.size + 1 := by omega
      have HBW0 : Hid (Below W0.heap.size W0 W0.drew) := Below.drew (Below.refl _ _)
      have HBW1 : Hid (Below W0.heap.size W0 (W0.alloc (.cells #[.int .i64 0, .int .u64 0, .string ⟨#[]⟩] 33)).drew) := Below.drew (below_one _ _)
      have HBW2 : Hid (Below W0.heap.size W0 ((W0.alloc (.cells #[.int .i64 0, .int .u64 0, .string ⟨#[]⟩] 33)).alloc (.cells #[.int .i64 0, .int .u64 0, .string ⟨#[]⟩] 33)).drew) := Below.drew (below_two (below_one _ _) (below_one _ _))
      have HCN : Hid (∀ w, Below W0.heap.size W0 w → Calls Tryz.prog 115 #[.pointer (some ⟨tp, 0, none⟩), .int .i64 (N0 : Int), .agg #[.int .i64 T1, .int .u64 (N1 : Int), .string ⟨S1.toArray⟩]] w fun e w' => e = .returned (.tuple #[.agg #[.int .i64 gT, .int .u64 (gN : Int), .string ⟨gS.toArray⟩], .agg #[.int .i64 hT, .int .u64 (hN : Int), .string ⟨hS.toArray⟩], .int .i64 ge]) ∧ Below w.heap.size w w') := fun w hb => HNX.out w _ (RW0.below hb)
      have HZ1 : Hid (∀ w2, Below (W0.alloc (.cells #[.int .i64 0, .int .u64 0, .string ⟨#[]⟩] 33)).drew.heap.size (W0.alloc (.cells #[.int .i64 0, .int .u64 0, .string ⟨#[]⟩] 33)).drew w2 → VB w2 W0.heap.size nilV) := fun w2 hb => VB.below (w := (W0.alloc (.cells #[.int .i64 0, .int .u64 0, .string ⟨#[]⟩] 33)).drew) (VB.new W0 nilV) hb
      have HZ2 : Hid (∀ w2, Below ((W0.alloc (.cells #[.int .i64 0, .int .u64 0, .string ⟨#[]⟩] 33)).alloc (.cells #[.int .i64 0, .int .u64 0, .string ⟨#[]⟩] 33)).drew.heap.size ((W0.alloc (.cells #[.int .i64 0, .int .u64 0, .string ⟨#[]⟩] 33)).alloc (.cells #[.int .i64 0, .int .u64 0, .string ⟨#[]⟩] 33)).drew w2 → VB w2 W0.heap.size nilV ∧ VB w2 (W0.heap.size + 1) nilV) := fun w2 hb => ⟨VB.below (w := ((W0.alloc (.cells #[.int .i64 0, .int .u64 0, .string ⟨#[]⟩] 33)).alloc (.cells #[.int .i64 0, .int .u64 0, .string ⟨#[]⟩] 33)).drew) (two_new' W0 nilV nilV).1 hb, VB.below (w := ((W0.alloc (.cells #[.int .i64 0, .int .u64 0, .string ⟨#[]⟩] 33)).alloc (.cells #[.int .i64 0, .int .u64 0, .string ⟨#[]⟩] 33)).drew) (two_new' W0 nilV nilV).2 hb⟩
      clear HO2 HNX RW0 HQ HSB
      go_region_with (go_at_call 115; refine (HCN.out _ (by first | with_reducible exact HBW0.out | with_reducible exact HBW1.out | with_reducible exact HBW2.out)).mono ?_; rintro e w2 ⟨rfl, hb⟩; have HB2 : Hid (Below W0.heap.size W0 w2) := (below_two (by first | with_reducible exact HBW0.out | with_reducible exact HBW1.out | with_reducible exact HBW2.out) hb); have hsz2 := HB2.out.size; first | (with_reducible have hz := HZ2.out w2 hb; have l1 := hz.1.lt'; have l2 := hz.2.lt'; have ne1 : ¬ W0.heap.size = w2.heap.size := (by omega); have ne2 : ¬ W0.heap.size + 1 = w2.heap.size := (by omega); obtain ⟨ya0, ya1, ya2, yb0, yb1, yb2⟩ := hz.1.cells; obtain ⟨yc0, yc1, yc2, yd0, yd1, yd2⟩ := hz.2.cells; clear hz hb) | (with_reducible have hz := HZ1.out w2 hb; have l1 := hz.lt'; have ne1 : ¬ W0.heap.size = w2.heap.size := (by omega); obtain ⟨ya0, ya1, ya2, yb0, yb1, yb2⟩ := hz.cells; clear hz hb) | clear hb)
      all_goals
        go_wp2_with fail
        go_meet
        case rel => exact ⟨rfl, _, _, rfl, rfl, by simp [go_sem, *], ⟨by omega, by omega⟩, (by show Below _ _ _; repeat (first | with_reducible exact HB2.out | refine Below.setCell ?_ (by dsimp only; omega) _ | refine Below.alloc ?_ (by first | omega | (simp; omega)) _))⟩
    case rest =>
      obtain ⟨rfl, b1, b2, rfl, rfl, ⟨⟨g0, g1, g2⟩, g3, g4, g5⟩, ⟨hb1, hb2⟩, HX⟩ := hcut
      have RX := RW0.below HX.out
      by_cases he : ge = 0
      · subst he
        have HO : Hid (builtP M 7 ⟨4, N0, S0⟩ ⟨T1, N1, S1⟩ = ok M (⟨gT, gN, gS⟩, ⟨hT, hN, hS⟩)) := by rw [HO2.out]; exact if_neg (by simp)
        have R2 := RX
        obtain ⟨z0, z1, z2, zz⟩ := R2.val (b := W.heap.size) (T := 0) (N := 0) (S := []) (by simp)
        obtain ⟨y0, y1, y2, yy⟩ := R2.val (b := W.heap.size + 1) (T := 0) (N := 0) (S := []) (by simp)
        have HF : Hid (∀ x y z x' y' z', Nf own W m a nb tp i M (put6 wc W.heap.size x y z x' y' z')) := fun x y z x' y' z' => R2.put6 x y z x' y' z'
        have HFd : Hid (∀ x y z x' y' z', Nf own W m a nb tp i M (put6 wc W.heap.size x y z x' y' z').drew) := fun x y z x' y' z' => (HF.out x y z x' y' z').below (Below.drew (Below.refl _ _))
        have n1 : ¬ b1 = W.heap.size := by omega
        have n2 : ¬ b1 = W.heap.size + 1 := by omega
        have n3 : ¬ b2 = W.heap.size := by omega
        have n4 : ¬ b2 = W.heap.size + 1 := by omega
        have n5 : ¬ W.heap.size = b1 := by omega
        have n6 : ¬ W.heap.size + 1 = b1 := by omega
        have n7 : ¬ W.heap.size = b2 := by omega
        have n8 : ¬ W.heap.size + 1 = b2 := by omega
        clear RX R2 RW0 HX HNX HO2 K1 K2 K3 K4 HQ HSB HF
        go_wp2_with fail
        go_region
        all_goals
          go_wp2_with fail
          refine bodyPost_ret (v := valR (⟨gT, gN, gS⟩, ⟨hT, hN, hS⟩)) (by first | (simp [results, go_sem, valV_mk, z0, z1, z2, y0, y1, y2]; done) | (simp [results, go_sem, valV_mk]; done)) rfl ?_
          rw [HO.out]
          exact .inl ⟨rfl, rfl, HFd.out _ _ _ _ _ _⟩
      · have HO : Hid (builtP M 7 ⟨4, N0, S0⟩ ⟨T1, N1, S1⟩ = Go.Proofs.Qxb6500293aGreatRR.thr M (nilV, nilV) (str [110, 101, 120, 116])) := by rw [HO2.out]; exact if_pos he
        have hne : (ge != 0) = true := by simpa using he
        have HT := raise_end [110, 101, 120, 116] wc
        have R1 := RX
        clear HNX HO2 RW0 K1 K2 K3 K4 RX HQ HSB
        go_wp2_with fail
        refine HT.mono ?_; rintro e w2 ht
        obtain ⟨bb, rfl, ht2, ht3, ht4⟩ := ht
        have HE : Hid (OuEf own W m a nb tp i (Go.Proofs.Qxb6500293aGreatRR.thr M (nilV, nilV) (str [110, 101, 120, 116])) valR (thrE bb) w2) := R1.thrown ⟨bb, rfl, ht2, ht3, ht4⟩
        clear ht2 ht3 ht4 R1 HT
        go_wp2_with fail
        simp [bodyPost]
        rw [HO.out]
        exact HE.out
  · have HO : Hid (builtP M 7 ⟨T0, N0, S0⟩ ⟨T1, N1, S1⟩ = Go.Proofs.Qxb6500293aGreatRR.thr M (nilV, nilV) (str [110, 101, 120, 116])) := by rw [HO1.out]; exact if_pos t4
    have HT := tabOf_thr ⟨T0, N0, S0⟩ mNext (box2 W) t4
    rw [valV_mk] at HT
    unfold mNext at HT
    clear HO1 t4 HV hv hok d0 d1 d2
    go_enter Tryz.func101, Tryz.ntmps101
    go_wp2_with fail
    refine HT.mono ?_; rintro e w2 ht
    obtain ⟨bb, rfl, ht2, ht3, ht4⟩ := ht
    have HE : Hid (OuEf own W m a nb tp i (Go.Proofs.Qxb6500293aGreatRR.thr M (nilV, nilV) (str [110, 101, 120, 116])) valR (thrE bb) w2) := R1.thrown ⟨bb, rfl, ht2, ht3, ht4⟩
    clear ht2 ht3 ht4 R1 HT
    go_wp2_with fail
    simp [bodyPost]
    rw [HO.out]
    exact HE.out
end Go.Proofs.Qxb6500293aGreatRR
