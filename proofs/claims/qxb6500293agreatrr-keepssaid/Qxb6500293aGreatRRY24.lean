/-
  forOp walked: IFORNEXT.
-/
import Derived.Test.Qxb6500293aGreatRRY21
import Derived.StillTailTactics
import Derived.Deep.Cut
namespace Go.Proofs.Qxb6500293aGreatRR
open Go.RowKit
open Ieee (double)
set_option linter.unusedVariables false
set_option linter.unusedSimpArgs false

/-- A place of the stack is turned. -/
def skSet (M : Mc) (i j : Nat) (v : V) : Mc := M.setT i { M.t i with sk := (M.t i).sk.set j v }
theorem skSet_len (M : Mc) (i j : Nat) (v : V) : (skSet M i j v).th.length = M.th.length := by unfold skSet; rw [th_setT]
theorem skSet_t {M : Mc} {i : Nat} (hi : i < M.th.length) (j : Nat) (v : V) : (skSet M i j v).t i = { M.t i with sk := (M.t i).sk.set j v } := by unfold skSet; exact t_setT hi _
theorem Rm.skSet {own : Nat → Nat} {W w : World} {m a nb tp i : Nat} {B : List (Nat × Obj)} {M : Mc} (h : Rm own W m a nb tp i B M w) (hi : i < M.th.length) {j : Nat} (hj : j < (M.t i).sk.length) {sb n cp : Nat} (hc : w.cell? ⟨a, i * 5 + 2, none⟩ = some (.slice (some ⟨sb, 0, none⟩) n cp)) (v : V) :
    Rm own W m a nb tp i B (skSet M i j v) (put3 w sb (j * 3) v) := by
  obtain ⟨own1, hv, hN⟩ := h.vm
  exact hN _ _ (hv.skPut hi hj hc v i)
theorem put3_other {w : World} {sb o : Nat} {v : V} {p : Addr} (h : p.block ≠ sb) : (put3 w sb o v).cell? p = w.cell? p := by
  obtain ⟨_, _, _, _, h5⟩ := put3_all w sb o v
  exact World.cell?_of_block (h5 _ h)
/-- What IFORNEXT does to the four places from k on. -/
def nextW (M : Mc) (i k : Nat) (v0 v1 : V) : Ou Unit :=
  if v0.T ≠ 4 then thr M () (str mFor)
  else if (nextP M.tb (v0.N : Int) v1).2.2 ≠ 0 then thr M () (str mNext)
  else ok (pushP (skSet (skSet (skSet M i (k + 1) (nextP M.tb (v0.N : Int) v1).1) i (k + 2) (nextP M.tb (v0.N : Int) v1).1) i (k + 3) (nextP M.tb (v0.N : Int) v1).2.1) i [boolV (decide ((nextP M.tb (v0.N : Int) v1).1.T ≠ 0))]) ()
theorem VB.lt' {w : World} {b : Nat} {v : V} (h : VB w b v) : b < w.heap.size := by
  rcases Nat.lt_or_ge b w.heap.size with c | c
  · exact c
  · unfold VB at h; rw [Array.getElem?_eq_none c] at h; cases h
theorem two_new' (w : World) (v v' : V) : VB ((w.alloc (.cells #[.int .i64 v.T, .int .u64 v.N, .string ⟨v.S.toArray⟩] 33)).alloc (.cells #[.int .i64 v'.T, .int .u64 v'.N, .string ⟨v'.S.toArray⟩] 33)) w.heap.size v ∧ VB ((w.alloc (.cells #[.int .i64 v.T, .int .u64 v.N, .string ⟨v.S.toArray⟩] 33)).alloc (.cells #[.int .i64 v'.T, .int .u64 v'.N, .string ⟨v'.S.toArray⟩] 33)) (w.heap.size + 1) v' := by
  refine ⟨?_, ?_⟩
  · exact ((below_one (w.alloc (.cells #[.int .i64 v.T, .int .u64 v.N, .string ⟨v.S.toArray⟩] 33)) _).block w.heap.size (by simp)).trans (VB.new w v)
  · have h := VB.new (w.alloc (.cells #[.int .i64 v.T, .int .u64 v.N, .string ⟨v.S.toArray⟩] 33)) v'
    have e : (w.alloc (.cells #[.int .i64 v.T, .int .u64 v.N, .string ⟨v.S.toArray⟩] 33)).heap.size = w.heap.size + 1 := by simp
    rw [e] at h
    exact h
set_option maxRecDepth 16000 in
set_option maxHeartbeats 8000000 in
theorem forNext {own : Nat → Nat} {W : World} {m a nb tp : Nat} {M : Mc} (HV : Vm own W m a nb tp M) {i : Nat} (hi : i < M.th.length) (hs : (M.t i).sk.length ≤ 10000) {b k n scp cp : Nat} {v0 v1 v2 v3 : V} (hc : W.cell? ⟨a, i * 5 + 2, none⟩ = some (.slice (some ⟨b, 0, none⟩) n scp)) (hk : k + 3 < (M.t i).sk.length) (hw : Win4 W b (k * 3) v0 v1 v2 v3) (hfz : ∀ k, W.frozen? ⟨b, k, none⟩ = false) (hba : b ≠ a) (hbm : b ≠ m) (h0 : v0.T = 4 → v0.N ≤ 9223372036854775807) (hok : v1.Ok) :
    Calls Tryz.prog 109 #[.pointer (some ⟨m, 0, none⟩), .pointer (some ⟨a, i * 5, none⟩), .slice (some ⟨b, k * 3, none⟩) 4 cp, .int .u8 32] W (OuEf own W m a nb tp i (nextW M i k v0 v1) (fun _ => .tuple #[])) := by
  have HO1 : Hid (nextW M i k v0 v1 = if v0.T ≠ 4 then thr M () (str mFor) else if (nextP M.tb (v0.N : Int) v1).2.2 ≠ 0 then thr M () (str mNext) else ok (pushP (skSet (skSet (skSet M i (k + 1) (nextP M.tb (v0.N : Int) v1).1) i (k + 2) (nextP M.tb (v0.N : Int) v1).1) i (k + 3) (nextP M.tb (v0.N : Int) v1).2.1) i [boolV (decide ((nextP M.tb (v0.N : Int) v1).1.T ≠ 0))]) ()) := rfl
  obtain ⟨hlt, ⟨a0, a1, a2⟩, ⟨b0, b1, b2⟩, ⟨c0, c1, c2⟩, ⟨d0, d1, d2⟩⟩ := hw
  have R0 : Rm own W m a nb tp i [] M W := Rm.start HV
  have HAL : Hid (a < W.heap.size) := by obtain ⟨vals, L, H⟩ := HV; exact H.alt
  obtain ⟨q0, q1, hml⟩ := HV.cellM (Below.refl W.heap.size W)
  obtain ⟨T0, N0, S0⟩ := v0
  obtain ⟨T1, N1, S1⟩ := v1
  obtain ⟨T2, N2, S2⟩ := v2
  obtain ⟨T3, N3, S3⟩ := v3
  simp only at *
  obtain ⟨o, ho⟩ : ∃ o, o = k * 3 := ⟨_, rfl⟩
  rw [← ho] at a0 a1 a2 b0 b1 b2 c0 c1 c2 d0 d1 d2 ⊢
  have HK : Hid (o = k * 3 ∧ k + 3 < (M.t i).sk.length ∧ (M.t i).sk.length ≤ 10000) := ⟨ho, hk, hs⟩
  clear ho hk hs
  by_cases t4 : T0 = 4
  · have HTO := fun W => tabOf_ok ⟨T0, N0, S0⟩ mFor W t4 (h0 t4)
    rw [valV_mk] at HTO
    unfold mFor at HTO
    have HO2 : Hid (nextW M i k ⟨T0, N0, S0⟩ ⟨T1, N1, S1⟩ = if (nextP M.tb (N0 : Int) ⟨T1, N1, S1⟩).2.2 ≠ 0 then thr M () (str mNext) else ok (pushP (skSet (skSet (skSet M i (k + 1) (nextP M.tb (N0 : Int) ⟨T1, N1, S1⟩).1) i (k + 2) (nextP M.tb (N0 : Int) ⟨T1, N1, S1⟩).1) i (k + 3) (nextP M.tb (N0 : Int) ⟨T1, N1, S1⟩).2.1) i [boolV (decide ((nextP M.tb (N0 : Int) ⟨T1, N1, S1⟩).1.T ≠ 0))]) ()) := by rw [HO1.out]; exact if_neg (by simp [t4])
    have HNX : Hid (∀ w B, Rm own W m a nb tp i B M w → Calls Tryz.prog 115 #[.pointer (some ⟨tp, 0, none⟩), .int .i64 (N0 : Int), valV ⟨T1, N1, S1⟩] w fun e w' => e = .returned (.tuple #[valV (nextP M.tb (N0 : Int) ⟨T1, N1, S1⟩).1, valV (nextP M.tb (N0 : Int) ⟨T1, N1, S1⟩).2.1, .int .i64 (nextP M.tb (N0 : Int) ⟨T1, N1, S1⟩).2.2]) ∧ Below w.heap.size w w') := by
      intro w B h
      obtain ⟨own1, hv, _⟩ := h.vm
      exact rnext own1 tp M.tb (N0 : Int) ⟨T1, N1, S1⟩ w hv.tabR.1 hv.tabR.2.1 hok
    generalize nextP M.tb (N0 : Int) ⟨T1, N1, S1⟩ = r at *
    obtain ⟨⟨gT, gN, gS⟩, ⟨hT, hN, hS⟩, ge⟩ := r
    simp only [valV_mk] at HNX HO2
    have HFZ : Hid (∀ k, W.frozen? ⟨b, k, none⟩ = false) := hfz
    have HCA : Hid (W.cell? ⟨a, i * 5 + 2, none⟩ = some (.slice (some ⟨b, 0, none⟩) n scp)) := hc
    have HNW : Hid (W.cell? ⟨b, o + 3, none⟩ = some (.int .i64 T1) ∧ W.cell? ⟨b, o + 4, none⟩ = some (.int .u64 (N1 : Int)) ∧ W.cell? ⟨b, o + 5, none⟩ = some (.string ⟨S1.toArray⟩) ∧ W.cell? ⟨b, o + 6, none⟩ = some (.int .i64 T2) ∧ W.cell? ⟨b, o + 7, none⟩ = some (.int .u64 (N2 : Int)) ∧ W.cell? ⟨b, o + 8, none⟩ = some (.string ⟨S2.toArray⟩) ∧ W.cell? ⟨b, o + 9, none⟩ = some (.int .i64 T3) ∧ W.cell? ⟨b, o + 10, none⟩ = some (.int .u64 (N3 : Int)) ∧ W.cell? ⟨b, o + 11, none⟩ = some (.string ⟨S3.toArray⟩)) := ⟨b0, b1, b2, c0, c1, c2, d0, d1, d2⟩
    subst t4
    clear HO1 HV h0 hok hfz hc b0 b1 b2 c0 c1 c2 d0 d1 d2 q0
    go_enter Tryz.func109, Tryz.ntmps109
    go_wp2_with fail
    refine (HTO _).mono ?_; rintro e W0 ⟨rfl, hb0⟩
    have HB0 : Hid (Below W.heap.size W W0) := hb0
    have RW0 := R0.below hb0
    have K1 := (hb0.cell (p := ⟨m, 1, none⟩) hml).trans q1
    have K2 := (hb0.cell (p := ⟨b, o + 3, none⟩) hlt).trans HNW.out.1
    have K3 := (hb0.cell (p := ⟨b, o + 4, none⟩) hlt).trans HNW.out.2.1
    have K4 := (hb0.cell (p := ⟨b, o + 5, none⟩) hlt).trans HNW.out.2.2.1
    have hml0 : m < W0.heap.size := Nat.lt_of_lt_of_le hml hb0.size
    have hlt0 : b < W0.heap.size := Nat.lt_of_lt_of_le hlt hb0.size
    clear a0 a1 a2 q1 hb0 HTO R0
    go_upto_region 18 with fail
    go_cut [15, 16, 17] from 20 (fun p q e wx => e = .int .i64 ge ∧ ∃ b1 b2, p = .pointer (some ⟨b1, 0, none⟩) ∧ q = .pointer (some ⟨b2, 0, none⟩) ∧ ((wx.cell? ⟨b1, 0, none⟩ = some (.int .i64 gT) ∧ wx.cell? ⟨b1, 1, none⟩ = some (.int .u64 gN) ∧ wx.cell? ⟨b1, 2, none⟩ = some (.string ⟨gS.toArray⟩)) ∧ (wx.cell? ⟨b2, 0, none⟩ = some (.int .i64 hT) ∧ wx.cell? ⟨b2, 1, none⟩ = some (.int .u64 hN) ∧ wx.cell? ⟨b2, 2, none⟩ = some (.string ⟨hS.toArray⟩))) ∧ (W0.heap.size ≤ b1 ∧ W0.heap.size ≤ b2) ∧ Hid (Below W0.heap.size W0 wx))
    case first =>
      have nr0 : ¬ m = W0.heap.size := by omega
      have nr1 : ¬ m = W0.heap.size + 1 := by omega
      have nn0 : ¬ b = W0.heap.size := by omega
      have nn1 : ¬ b = W0.heap.size + 1 := by omega
      have HBW0 : Hid (Below W0.heap.size W0 W0.drew) := Below.drew (Below.refl _ _)
      have HBW1 : Hid (Below W0.heap.size W0 (W0.alloc (.cells #[.int .i64 0, .int .u64 0, .string ⟨#[]⟩] 33)).drew) := Below.drew (below_one _ _)
      have HBW2 : Hid (Below W0.heap.size W0 ((W0.alloc (.cells #[.int .i64 0, .int .u64 0, .string ⟨#[]⟩] 33)).alloc (.cells #[.int .i64 0, .int .u64 0, .string ⟨#[]⟩] 33)).drew) := Below.drew (below_two (below_one _ _) (below_one _ _))
      have HCN : Hid (∀ w, Below W0.heap.size W0 w → Calls Tryz.prog 115 #[.pointer (some ⟨tp, 0, none⟩), .int .i64 (N0 : Int), .agg #[.int .i64 T1, .int .u64 (N1 : Int), .string ⟨S1.toArray⟩]] w fun e w' => e = .returned (.tuple #[.agg #[.int .i64 gT, .int .u64 (gN : Int), .string ⟨gS.toArray⟩], .agg #[.int .i64 hT, .int .u64 (hN : Int), .string ⟨hS.toArray⟩], .int .i64 ge]) ∧ Below w.heap.size w w') := fun w hb => HNX.out w _ (RW0.below hb)
      have HZ1 : Hid (∀ w2, Below (W0.alloc (.cells #[.int .i64 0, .int .u64 0, .string ⟨#[]⟩] 33)).drew.heap.size (W0.alloc (.cells #[.int .i64 0, .int .u64 0, .string ⟨#[]⟩] 33)).drew w2 → VB w2 W0.heap.size nilV) := fun w2 hb => VB.below (w := (W0.alloc (.cells #[.int .i64 0, .int .u64 0, .string ⟨#[]⟩] 33)).drew) (VB.new W0 nilV) hb
      have HZ2 : Hid (∀ w2, Below ((W0.alloc (.cells #[.int .i64 0, .int .u64 0, .string ⟨#[]⟩] 33)).alloc (.cells #[.int .i64 0, .int .u64 0, .string ⟨#[]⟩] 33)).drew.heap.size ((W0.alloc (.cells #[.int .i64 0, .int .u64 0, .string ⟨#[]⟩] 33)).alloc (.cells #[.int .i64 0, .int .u64 0, .string ⟨#[]⟩] 33)).drew w2 → VB w2 W0.heap.size nilV ∧ VB w2 (W0.heap.size + 1) nilV) := fun w2 hb => ⟨VB.below (w := ((W0.alloc (.cells #[.int .i64 0, .int .u64 0, .string ⟨#[]⟩] 33)).alloc (.cells #[.int .i64 0, .int .u64 0, .string ⟨#[]⟩] 33)).drew) (two_new' W0 nilV nilV).1 hb, VB.below (w := ((W0.alloc (.cells #[.int .i64 0, .int .u64 0, .string ⟨#[]⟩] 33)).alloc (.cells #[.int .i64 0, .int .u64 0, .string ⟨#[]⟩] 33)).drew) (two_new' W0 nilV nilV).2 hb⟩
      clear HO2 HNX RW0 HFZ HCA HNW HB0 HK
      go_region_with (go_at_call 115; refine (HCN.out _ (by first | with_reducible exact HBW0.out | with_reducible exact HBW1.out | with_reducible exact HBW2.out)).mono ?_; rintro e w2 ⟨rfl, hb⟩; have HB2 : Hid (Below W0.heap.size W0 w2) := (below_two (by first | with_reducible exact HBW0.out | with_reducible exact HBW1.out | with_reducible exact HBW2.out) hb); have hsz2 := HB2.out.size; first | (with_reducible have hz := HZ2.out w2 hb; have l1 := hz.1.lt'; have l2 := hz.2.lt'; have ne1 : ¬ W0.heap.size = w2.heap.size := (by omega); have ne2 : ¬ W0.heap.size + 1 = w2.heap.size := (by omega); obtain ⟨ya0, ya1, ya2, yb0, yb1, yb2⟩ := hz.1.cells; obtain ⟨yc0, yc1, yc2, yd0, yd1, yd2⟩ := hz.2.cells; clear hz hb) | (with_reducible have hz := HZ1.out w2 hb; have l1 := hz.lt'; have ne1 : ¬ W0.heap.size = w2.heap.size := (by omega); obtain ⟨ya0, ya1, ya2, yb0, yb1, yb2⟩ := hz.cells; clear hz hb) | clear hb)
      all_goals
        go_wp2_with fail
        go_meet
        case rel => exact ⟨rfl, _, _, rfl, rfl, by simp [go_sem, *], ⟨by omega, by omega⟩, (by show Below _ _ _; repeat (first | with_reducible exact HB2.out | refine Below.setCell ?_ (by dsimp only; omega) _ | refine Below.alloc ?_ (by first | omega | (simp; omega)) _))⟩
    case rest =>
      obtain ⟨rfl, b1, b2, rfl, rfl, ⟨⟨g0, g1, g2⟩, g3, g4, g5⟩, ⟨hb1, hb2⟩, HX⟩ := hcut
      have RX := RW0.below HX.out
      have HBX : Hid (Below W.heap.size W wc) := below_two HB0.out HX.out
      by_cases he : ge = 0
      · subst he
        have HO : Hid (nextW M i k ⟨4, N0, S0⟩ ⟨T1, N1, S1⟩ = ok (pushP (skSet (skSet (skSet M i (k + 1) ⟨gT, gN, gS⟩) i (k + 2) ⟨gT, gN, gS⟩) i (k + 3) ⟨hT, hN, hS⟩) i [boolV (decide (gT ≠ 0))]) ()) := by rw [HO2.out]; exact if_neg (by simp)
        have x0 := (HBX.out.cell (p := ⟨b, o + 3, none⟩) hlt).trans HNW.out.1
        have x1 := (HBX.out.cell (p := ⟨b, o + 4, none⟩) hlt).trans HNW.out.2.1
        have x2 := (HBX.out.cell (p := ⟨b, o + 5, none⟩) hlt).trans HNW.out.2.2.1
        have x3 := (HBX.out.cell (p := ⟨b, o + 6, none⟩) hlt).trans HNW.out.2.2.2.1
        have x4 := (HBX.out.cell (p := ⟨b, o + 7, none⟩) hlt).trans HNW.out.2.2.2.2.1
        have x5 := (HBX.out.cell (p := ⟨b, o + 8, none⟩) hlt).trans HNW.out.2.2.2.2.2.1
        have x6 := (HBX.out.cell (p := ⟨b, o + 9, none⟩) hlt).trans HNW.out.2.2.2.2.2.2.1
        have x7 := (HBX.out.cell (p := ⟨b, o + 10, none⟩) hlt).trans HNW.out.2.2.2.2.2.2.2.1
        have x8 := (HBX.out.cell (p := ⟨b, o + 11, none⟩) hlt).trans HNW.out.2.2.2.2.2.2.2.2
        have fz : ∀ k, wc.frozen? ⟨b, k, none⟩ = false := fun k => (World.frozen?_of_block (HBX.out.block b hlt)).trans (HFZ.out k)
        have z3 := fz (o + 3)
        have z4 := fz (o + 4)
        have z5 := fz (o + 5)
        have z6 := fz (o + 6)
        have z7 := fz (o + 7)
        have z8 := fz (o + 8)
        have z9 := fz (o + 9)
        have z10 := fz (o + 10)
        have z11 := fz (o + 11)
        have nb1 : ¬ b1 = b := by omega
        have nb2 : ¬ b2 = b := by omega
        have nb3 : ¬ b = b1 := by omega
        have nb4 : ¬ b = b2 := by omega
        obtain ⟨r, hr⟩ : ∃ r, (gT != 0) = r := ⟨_, rfl⟩
        have hdr : decide (gT ≠ 0) = r := by rw [← hr]; by_cases hz : gT = 0 <;> simp [hz]
        obtain ⟨rN, hrN⟩ := boolV_mk r
        have HBO := fun W => bool_any r W
        rw [hrN, valV_mk] at HBO
        rw [hdr, hrN] at HO
        have HC5 : wc.cell? ⟨a, i * 5 + 2, none⟩ = some (.slice (some ⟨b, 0, none⟩) n scp) := (HBX.out.cell (p := ⟨a, i * 5 + 2, none⟩) HAL.out).trans HCA.out
        have e3 : (k + 1) * 3 = o + 3 := by have := HK.out.1; omega
        have e6 : (k + 2) * 3 = o + 6 := by have := HK.out.1; omega
        have e9 : (k + 3) * 3 = o + 9 := by have := HK.out.1; omega
        have hi1 : i < (skSet M i (k + 1) ⟨gT, gN, gS⟩).th.length := by rw [skSet_len]; exact hi
        have hi2 : i < (skSet (skSet M i (k + 1) ⟨gT, gN, gS⟩) i (k + 2) ⟨gT, gN, gS⟩).th.length := by rw [skSet_len]; exact hi1
        have l1 : ((skSet M i (k + 1) ⟨gT, gN, gS⟩).t i).sk.length = (M.t i).sk.length := by rw [skSet_t hi]; exact List.length_set
        have l2 : ((skSet (skSet M i (k + 1) ⟨gT, gN, gS⟩) i (k + 2) ⟨gT, gN, gS⟩).t i).sk.length = (M.t i).sk.length := by rw [skSet_t hi1, ← l1]; exact List.length_set
        have HLN : Hid (((skSet (skSet (skSet M i (k + 1) ⟨gT, gN, gS⟩) i (k + 2) ⟨gT, gN, gS⟩) i (k + 3) ⟨hT, hN, hS⟩).t i).sk.length ≤ 20000) := by
          show _ ≤ _
          rw [skSet_t hi2]
          have e : ((((skSet (skSet M i (k + 1) ⟨gT, gN, gS⟩) i (k + 2) ⟨gT, gN, gS⟩).t i).sk).set (k + 3) ⟨hT, hN, hS⟩).length = ((skSet (skSet M i (k + 1) ⟨gT, gN, gS⟩) i (k + 2) ⟨gT, gN, gS⟩).t i).sk.length := List.length_set
          have := HK.out.2.2
          simp only
          rw [e, l2]
          omega
        have R3 := RX.skSet hi (j := k + 1) (by have := HK.out.2.1; omega) HC5 ⟨gT, gN, gS⟩
        have R6 := R3.skSet hi1 (j := k + 2) (by rw [l1]; have := HK.out.2.1; omega) ((put3_other (p := ⟨a, i * 5 + 2, none⟩) (by exact hba.symm)).trans HC5) ⟨gT, gN, gS⟩
        have R9 := R6.skSet hi2 (j := k + 3) (by rw [l2]; have := HK.out.2.1; omega) ((put3_other (p := ⟨a, i * 5 + 2, none⟩) (by exact hba.symm)).trans ((put3_other (p := ⟨a, i * 5 + 2, none⟩) (by exact hba.symm)).trans HC5)) ⟨hT, hN, hS⟩
        rw [e3, e6, e9] at R9
        have RY : Rm own W m a nb tp i [] (skSet (skSet (skSet M i (k + 1) ⟨gT, gN, gS⟩) i (k + 2) ⟨gT, gN, gS⟩) i (k + 3) ⟨hT, hN, hS⟩) ((((((((((wc.setCell ⟨b, o + 3, none⟩ (.int .i64 gT)).setCell ⟨b, o + 3 + 1, none⟩ (.int .u64 (gN : Int))).setCell ⟨b, o + 3 + 2, none⟩ (.string ⟨gS.toArray⟩)).setCell ⟨b, o + 6, none⟩ (.int .i64 gT)).setCell ⟨b, o + 6 + 1, none⟩ (.int .u64 (gN : Int))).setCell ⟨b, o + 6 + 2, none⟩ (.string ⟨gS.toArray⟩)).setCell ⟨b, o + 9, none⟩ (.int .i64 hT)).setCell ⟨b, o + 9 + 1, none⟩ (.int .u64 (hN : Int))).setCell ⟨b, o + 9 + 2, none⟩ (.string ⟨hS.toArray⟩)).drew) := R9.below (Below.drew (Below.refl _ _))
        have Y0a : (put3 (put3 (put3 wc b (o + 3) ⟨gT, gN, gS⟩) b (o + 6) ⟨gT, gN, gS⟩) b (o + 9) ⟨hT, hN, hS⟩).cell? ⟨b1, 0, none⟩ = some (.int .i64 gT) := by
          rw [put3_other (p := ⟨b1, 0, none⟩) nb1, put3_other (p := ⟨b1, 0, none⟩) nb1, put3_other (p := ⟨b1, 0, none⟩) nb1]
          exact g0
        simp only [put3] at Y0a
        have Y0 : ((((((((((wc.setCell ⟨b, o + 3, none⟩ (.int .i64 gT)).setCell ⟨b, o + 3 + 1, none⟩ (.int .u64 (gN : Int))).setCell ⟨b, o + 3 + 2, none⟩ (.string ⟨gS.toArray⟩)).setCell ⟨b, o + 6, none⟩ (.int .i64 gT)).setCell ⟨b, o + 6 + 1, none⟩ (.int .u64 (gN : Int))).setCell ⟨b, o + 6 + 2, none⟩ (.string ⟨gS.toArray⟩)).setCell ⟨b, o + 9, none⟩ (.int .i64 hT)).setCell ⟨b, o + 9 + 1, none⟩ (.int .u64 (hN : Int))).setCell ⟨b, o + 9 + 2, none⟩ (.string ⟨hS.toArray⟩)).drew).cell? ⟨b1, 0, none⟩ = some (.int .i64 gT) := by rw [World.cell?_drew]; exact Y0a
        clear Y0a
        clear R3 R6 R9 RX e3 e6 e9 hi1 hi2 l1 l2 hdr hrN HC5
        clear fz RW0 HX HNX HO2 K1 K2 K3 K4 HNW
        go_wp2_with fail
        go_region
        generalize ((((((((((wc.setCell ⟨b, o + 3, none⟩ (.int .i64 gT)).setCell ⟨b, o + 3 + 1, none⟩ (.int .u64 (gN : Int))).setCell ⟨b, o + 3 + 2, none⟩ (.string ⟨gS.toArray⟩)).setCell ⟨b, o + 6, none⟩ (.int .i64 gT)).setCell ⟨b, o + 6 + 1, none⟩ (.int .u64 (gN : Int))).setCell ⟨b, o + 6 + 2, none⟩ (.string ⟨gS.toArray⟩)).setCell ⟨b, o + 9, none⟩ (.int .i64 hT)).setCell ⟨b, o + 9 + 1, none⟩ (.int .u64 (hN : Int))).setCell ⟨b, o + 9 + 2, none⟩ (.string ⟨hS.toArray⟩)).drew) = W5 at *
        go_wp2_with fail
        refine (HBO _).mono ?_; rintro e w6 ⟨rfl, hb6⟩
        have HPU := ((RY.below hb6).alloc (vBox 1 rN []) rfl).rn.weak.push rfl (by rw [skSet_len, skSet_len, skSet_len]; exact hi) HLN.out 1 rN [] (n := w6.heap.size + 1) (by simp)
        clear hb6 HBO RY
        go_wp2_with fail
        refine HPU.mono ?_; rintro e w9 ⟨rfl, hNN⟩
        have HN : Hid (Nf own W m a nb tp i (pushP (skSet (skSet (skSet M i (k + 1) ⟨gT, gN, gS⟩) i (k + 2) ⟨gT, gN, gS⟩) i (k + 3) ⟨hT, hN, hS⟩) i [⟨1, rN, []⟩]) w9) := hNN
        clear hNN HPU
        go_wp2_with fail
        go_end0
        rw [HO.out]
        exact .inl ⟨rfl, rfl, HN.out⟩
      · have HO : Hid (nextW M i k ⟨4, N0, S0⟩ ⟨T1, N1, S1⟩ = thr M () (str [110, 101, 120, 116])) := by rw [HO2.out]; exact if_pos he
        have hne : (ge != 0) = true := by simpa using he
        have HR := raise_end [110, 101, 120, 116] wc
        clear HNX HO2 RW0 K1 K2 K3 K4
        go_wp2_with fail
        refine HR.mono ?_; rintro e w4 ht
        obtain ⟨bb, rfl, ht2, ht3, ht4⟩ := ht
        have HE4 : Hid (OuEf own W m a nb tp i (thr M () (str [110, 101, 120, 116])) (fun _ => .tuple #[]) (thrE bb) w4) := RX.thrown ⟨bb, rfl, ht2, ht3, ht4⟩
        clear ht2 ht3 ht4 RX HR
        go_wp2_with fail
        simp [bodyPost]
        rw [HO.out]
        exact HE4.out
  · have HO : Hid (nextW M i k ⟨T0, N0, S0⟩ ⟨T1, N1, S1⟩ = thr M () (str [102, 111, 114])) := by rw [HO1.out]; exact if_pos t4
    have HTO := fun W => tabOf_thr ⟨T0, N0, S0⟩ mFor W t4
    rw [valV_mk] at HTO
    unfold mFor at HTO
    clear HO1 t4 HV
    go_enter Tryz.func109, Tryz.ntmps109
    go_wp2_with fail
    refine (HTO _).mono ?_; rintro e w4 ht
    obtain ⟨bb, rfl, ht2, ht3, ht4⟩ := ht
    have HE4 : Hid (OuEf own W m a nb tp i (thr M () (str [102, 111, 114])) (fun _ => .tuple #[]) (thrE bb) w4) := R0.thrown ⟨bb, rfl, ht2, ht3, ht4⟩
    clear ht2 ht3 ht4 R0 HTO
    go_wp2_with fail
    simp [bodyPost]
    rw [HO.out]
    exact HE4.out
end Go.Proofs.Qxb6500293aGreatRR
