/-
  check 32, Check 12 walked.
-/
import Derived.Test.Qxb6500293aGreatRRB3fin
import Derived.Test.Qxb6500293aGreatRRB4
import Derived.Deep.LoopGhost
namespace Go.Proofs.Qxb6500293aGreatRR
open Go.RowKit
open Ieee (double)
set_option linter.unusedVariables false
set_option linter.unusedSimpArgs false

theorem checkThread_any {own : Nat → Nat} {W : World} {m a nb tp : Nat} {M : Mc} (HV : Vm own W m a nb tp M) (hA : Alive M none) {i : Nat} (hi : i < M.th.length) :
    Calls Tryz.prog 47 #[.pointer (some ⟨m, 0, none⟩), i64 i, .bool false, .int .i64 0] W fun e w' => e = .returned (.bool true) ∧ Below W.heap.size W w' := by
  have hT := hA.th i hi
  have h4 : (M.t i).st ≠ 4 := fun h => by have := hT.isrun.1 h; cases this
  have h15 := hT.st
  by_cases h : (M.t i).st = 1 ∨ (M.t i).st = 5
  · exact checkThread_dead HV hA hi h
  · exact checkThread_live HV hA hi (by omega)
theorem numCheck_any {own : Nat → Nat} {W : World} {m a nb tp : Nat} {M : Mc} (HV : Vm own W m a nb tp M) : Calls Tryz.prog 30 #[.pointer (some ⟨nb, 0, none⟩)] W fun e w' => e = .returned (.bool true) ∧ w' = W := by
  obtain ⟨vals, L, H⟩ := HV
  obtain ⟨b, ⟨h1, h2, _⟩, _, _⟩ := H.num
  have c0 : W.cell? ⟨nb, 0, none⟩ = some (.slice (some ⟨b, 0, none⟩) 24 24) := by rw [box_cell h1]; rfl
  have hl := heap_lt h1
  clear H h1 h2
  go_enter Tryz.func30, Tryz.ntmps30
  go_wp2
  go_ret
  exact ⟨rfl, rfl⟩
theorem opSum_take (l : List Nat) {i x : Nat} (h : l[i]? = some x) : (l.take (i + 1)).sum = (l.take i).sum + x := by
  rw [List.take_add_one, h]
  simp
theorem count_take (l : List Ce) {i : Nat} {x : Ce} (h : l[i]? = some x) : (l.take (i + 1)).countP (fun c => decide (0 ≤ c.th)) = (l.take i).countP (fun c => decide (0 ≤ c.th)) + (if 0 ≤ x.th then 1 else 0) := by
  rw [List.take_add_one, h, List.countP_append]
  congr 1
  simp [List.countP_cons]
theorem count_le (l : List Ce) (i : Nat) : (l.take i).countP (fun c => decide (0 ≤ c.th)) ≤ l.countP (fun c => decide (0 ≤ c.th)) := (List.take_sublist i l).countP_le
theorem opSum_le (l : List Nat) (i : Nat) : (l.take i).sum ≤ l.sum := by
  have h := congrArg List.sum (List.take_append_drop i l)
  rw [List.sum_append] at h
  omega
set_option maxRecDepth 16000 in
set_option maxHeartbeats 16000000 in
theorem check_alive {own : Nat → Nat} {W : World} {m a nb tp : Nat} {M : Mc} (HV : Vm own W m a nb tp M) (hA : Alive M none) :
    Calls Tryz.prog 32 #[.pointer (some ⟨m, 0, none⟩), .int .i64 (-1), .int .i64 0] W fun e w' => e = .returned (.bool true) ∧ Below W.heap.size W w' := by
  obtain ⟨pa, pc, c2q, prow⟩ := HV.rowAll 0 (by omega) (fun L => (row_lo M L).1) prC_len (by decide)
  obtain ⟨ca, cc, c6q, crow⟩ := HV.rowAll 4 (by omega) (fun L => (row_lo M L).2.2.2.2.1) csC_len (by decide)
  obtain ⟨ua, uc, c7q, urow⟩ := HV.rowAll 5 (by omega) (fun L => (row_lo M L).2.2.2.2.2.1) ixC_len (by decide)
  obtain ⟨xa, xc, c8q, xrow⟩ := HV.rowAll 6 (by omega) (fun L => (row_lo M L).2.2.2.2.2.2.1) ceC_len (by decide)
  obtain ⟨-, ⟨a1, p1, c3⟩, ⟨a2, p2, c4⟩, ⟨a3, p3, c5⟩, -, -, -, ⟨a7, p7, c11⟩⟩ := HV.allLen
  have c2 : W.cell? ⟨m, 2, none⟩ = some (.slice pa M.pr.length pc) := c2q
  have c6 : W.cell? ⟨m, 6, none⟩ = some (.slice ca M.cs.length cc) := c6q
  have c7 : W.cell? ⟨m, 7, none⟩ = some (.slice ua M.ux.length uc) := c7q
  have c8 : W.cell? ⟨m, 8, none⟩ = some (.slice xa M.ce.length xc) := c8q
  clear c2q c6q c7q c8q
  obtain ⟨c10, c12, hml, hal⟩ := HV.hdC
  obtain ⟨c9, c95⟩ := HV.c9V
  rw [hA.en] at c12
  obtain ⟨hRS, hG, c1, c0, _⟩ := HV.tabR
  have HCNT : Hid (∀ w, Below W.heap.size W w → Calls Tryz.prog 46 #[.pointer (some ⟨tp, 0, none⟩)] w fun e w2 => e = .returned (.int .i64 (M.tb.length : Int)) ∧ w2 = w) := fun w hb => rcount own tp M.tb w (hRS.below hb) hG
  have HTH : Hid (∀ i w, i < M.th.length → Below W.heap.size W w → Calls Tryz.prog 47 #[.pointer (some ⟨m, 0, none⟩), i64 i, .bool false, .int .i64 0] w fun e w' => e = .returned (.bool true) ∧ Below w.heap.size w w') := fun i w hi hb => checkThread_any (HV.below hb) hA hi
  have HVA : Hid (∀ w, Below W.heap.size W w → Calls Tryz.prog 48 #[.pointer (some ⟨m, 0, none⟩)] w fun e w' => e = .returned (.bool true) ∧ Below w.heap.size w w') := fun w hb => checkVals_any (HV.below hb) hA
  have HOP : Hid (∀ i w, i < M.th.length → Below W.heap.size W w → ∃ ad cp, w.cell? ⟨a, i * 5 + 4, none⟩ = some (.slice ad (M.t i).op.length cp)) := fun i w hi hb => by
    obtain ⟨ad, cp, h, _⟩ := (HV.below hb).opQ hi
    exact ⟨ad, cp, h⟩
  have HP : Hid (∀ k x, M.pr[k]? = some x → ∃ b, pa = some ⟨b, 0, none⟩ ∧ b < W.heap.size ∧ M.pr.length ≤ pc ∧ ∀ q u, (prC x)[q]? = some u → W.cell? ⟨b, k * 8 + q, none⟩ = some u) := prow
  have HC : Hid (∀ k x, M.cs[k]? = some x → ∃ b, ca = some ⟨b, 0, none⟩ ∧ b < W.heap.size ∧ M.cs.length ≤ cc ∧ ∀ q u, (csC x)[q]? = some u → W.cell? ⟨b, k * 3 + q, none⟩ = some u) := crow
  have HU : Hid (∀ k x, M.ux[k]? = some x → ∃ b, ua = some ⟨b, 0, none⟩ ∧ b < W.heap.size ∧ M.ux.length ≤ uc ∧ ∀ q u, (ixC x)[q]? = some u → W.cell? ⟨b, k * 1 + q, none⟩ = some u) := urow
  have HX : Hid (∀ k x, M.ce[k]? = some x → ∃ b, xa = some ⟨b, 0, none⟩ ∧ b < W.heap.size ∧ M.ce.length ≤ xc ∧ ∀ q u, (ceC x)[q]? = some u → W.cell? ⟨b, k * 5 + q, none⟩ = some u) := xrow
  have HA : Hid (Alive M none) := hA
  have hou := hA.ou.out
  have htb := hA.tb
  have htb12 := hA.tb12
  have h1 := hA.st.pr1
  have h2 := hA.st.pr13
  have h3 := hA.cl.cs1
  have h4 := hA.cl.cs24
  have h5 := hA.th1
  have h6 := hA.th5
  have h7 := hA.cl.lce
  have h8 := hA.ux.1
  have h9 := hA.st.lds
  have h10 := hA.st.lks
  have h11 := hA.st.lco
  have d1 : decide ((200 : Int) < (M.out.length : Int)) = false := decide_eq_false (by omega)
  have d2 : decide ((M.pr.length : Int) < 1) = false := decide_eq_false (by omega)
  have d3 : decide ((13 : Int) < (M.pr.length : Int)) = false := decide_eq_false (by omega)
  have d4 : decide ((M.cs.length : Int) < 1) = false := decide_eq_false (by omega)
  have d5 : decide ((24 : Int) < (M.cs.length : Int)) = false := decide_eq_false (by omega)
  have d6 : decide ((M.th.length : Int) < 1) = false := decide_eq_false (by omega)
  have d7 : decide ((M.ux.length : Int) < (M.ce.length : Int)) = false := decide_eq_false (by omega)
  have d8 : decide ((6120 : Int) < (M.ux.length : Int)) = false := decide_eq_false (by omega)
  have d9 : decide ((M.tb.length : Int) < 1) = false := decide_eq_false (by omega)
  have e7 : decide (M.ux.length < M.ce.length) = false := decide_eq_false (by omega)
  clear HV hA hRS hG prow crow urow xrow c0
  obtain ⟨pl, hpl⟩ : ∃ pl, pl = M.pr.length := ⟨_, rfl⟩
  obtain ⟨cl, hcl⟩ : ∃ cl, cl = M.cs.length := ⟨_, rfl⟩
  obtain ⟨ul, hul⟩ : ∃ ul, ul = M.ux.length := ⟨_, rfl⟩
  obtain ⟨xl, hxl⟩ : ∃ xl, xl = M.ce.length := ⟨_, rfl⟩
  obtain ⟨tl, htl⟩ : ∃ tl, tl = M.th.length := ⟨_, rfl⟩
  obtain ⟨dl, hdl⟩ : ∃ dl, dl = M.ds.length := ⟨_, rfl⟩
  obtain ⟨kl, hkl⟩ : ∃ kl, kl = M.ks.length := ⟨_, rfl⟩
  obtain ⟨ol, hol⟩ : ∃ ol, ol = M.co.length := ⟨_, rfl⟩
  rw [← hpl] at c2 h1 h2 d2 d3 HP
  rw [← hcl] at c6 h3 h4 d4 d5 HC
  rw [← hul] at c7 h7 h8 d7 d8 e7 HU
  rw [← hxl] at c8 h7 d7 e7 HX
  rw [← htl] at c9 c95 h5 h6 d6 HTH HOP
  rw [← hdl] at c3 h9
  rw [← hkl] at c4 h10
  rw [← hol] at c5 h11
  have HLN : Hid (pl = M.pr.length ∧ cl = M.cs.length ∧ ul = M.ux.length ∧ xl = M.ce.length ∧ tl = M.th.length ∧ dl = M.ds.length ∧ kl = M.ks.length ∧ ol = M.co.length) := ⟨hpl, hcl, hul, hxl, htl, hdl, hkl, hol⟩
  clear hpl hcl hul hxl htl hdl hkl hol
  generalize M.out.length = oul at *
  generalize M.fuel = fu at *
  generalize M.tb.length = tbl at *
  go_enter Tryz.func32, Tryz.ntmps32
  go_wp2_with fail
  go_quiet (fail)
  revert nq; intro nq1
  go_wp2_with fail
  refine (HCNT.out _ (below_drewN (Below.refl _ _) _)).mono ?_; rintro e wc ⟨rfl, hq⟩
  have HB0 : Hid (Below W.heap.size W wc) := by rw [hq]; exact below_drewN (Below.refl _ _) _
  have c2w := (HB0.out.cell (p := ⟨m, 2, none⟩) hml).trans c2
  have hmlw : m < wc.heap.size := Nat.lt_of_lt_of_le hml HB0.out.size
  clear hq HCNT c10 c12 c1 d1 d2 d3 d4 d5 d6 d7 d8 e7
  go_wp2_with fail
  go_loopw [9, 10, 11, 168] (fun uv kv cv iv wr => ∃ q u k c : Nat, iv = .int .i64 (q : Int) ∧ uv = .int .i64 (u : Int) ∧ kv = .int .i64 (k : Int) ∧ cv = .int .i64 (c : Int) ∧ q ≤ pl ∧ u ≤ 40000 ∧ k ≤ 40000 ∧ c ≤ 40000 ∧ Hid (Below W.heap.size W wr ∧ tileP dl kl ol (M.pr.drop q) u k c)) (fun _ _ _ iv _ => pl - (intOf iv).toNat)
  case atStart => exact ⟨0, 0, 0, 0, rfl, rfl, rfl, rfl, by omega, by omega, by omega, by omega, HB0.out, by obtain ⟨-, -, -, -, -, q1, q2, q3⟩ := HLN.out; rw [q1, q2, q3]; exact HA.out.st.tile⟩
  case round =>
    obtain ⟨q, u, k, c, rfl, rfl, rfl, rfl, hq, hu9, hk9, hc9, HR⟩ := hrel
    by_cases hql : q < pl
    · have hqt : q < M.pr.length := by have := HLN.out.1; omega
      obtain ⟨p, hp⟩ : ∃ p, M.pr[q]? = some p := ⟨_, List.getElem?_eq_getElem hqt⟩
      have hpm := List.mem_of_getElem? hp
      have hti := HR.out.2
      rw [List.drop_eq_getElem_cons hqt, show M.pr[q] = p by have := List.getElem?_eq_getElem hqt; rw [hp] at this; injection this with this; exact this.symm] at hti
      obtain ⟨i1, i2, i3, i4⟩ := hti
      obtain ⟨j1, j2, j3, j4, j5⟩ := HA.out.st.each p hpm
      obtain ⟨v1, v2, v3⟩ := HA.out.st.win p hpm
      obtain ⟨-, -, -, -, -, q1, q2, q3⟩ := HLN.out
      rw [← q1] at v1
      rw [← q2] at v2
      rw [← q3] at v3
      obtain ⟨b, hb1, hb2, hb3, hb4⟩ := HP.out q p hp
      have hbl : b < wr.heap.size := Nat.lt_of_lt_of_le hb2 HR.out.1.size
      have g0 := (HR.out.1.cell (p := ⟨b, q * 8, none⟩) hb2).trans (hb4 0 _ rfl)
      have g1 := (HR.out.1.cell (p := ⟨b, q * 8 + 1, none⟩) hb2).trans (hb4 1 _ rfl)
      have g2 := (HR.out.1.cell (p := ⟨b, q * 8 + 2, none⟩) hb2).trans (hb4 2 _ rfl)
      have g3 := (HR.out.1.cell (p := ⟨b, q * 8 + 3, none⟩) hb2).trans (hb4 3 _ rfl)
      have g4 := (HR.out.1.cell (p := ⟨b, q * 8 + 4, none⟩) hb2).trans (hb4 4 _ rfl)
      have g5 := (HR.out.1.cell (p := ⟨b, q * 8 + 5, none⟩) hb2).trans (hb4 5 _ rfl)
      have g6 := (HR.out.1.cell (p := ⟨b, q * 8 + 6, none⟩) hb2).trans (hb4 6 _ rfl)
      have g7 := (HR.out.1.cell (p := ⟨b, q * 8 + 7, none⟩) hb2).trans (hb4 7 _ rfl)
      obtain ⟨np, ns, up, nup, kk, nk, co, nc⟩ := p
      simp only at i1 i2 i3 i4 j1 j2 j3 j4 j5 v1 v2 v3 g0 g1 g2 g3 g4 g5 g6 g7
      subst i1 i2 i3 hb1
      have dq : decide ((q : Int) < (pl : Int)) = true := decide_eq_true (by omega)
      have r1 : decide ((255 : Int) < (nup : Int)) = false := decide_eq_false (by omega)
      have r2 : decide ((3 : Int) < (np : Int)) = false := decide_eq_false (by omega)
      have r3 : decide ((ns : Int) < (np : Int)) = false := decide_eq_false (by omega)
      have r4 : decide ((12 : Int) < (ns : Int)) = false := decide_eq_false (by omega)
      have r5 : decide (ns < np) = false := decide_eq_false (by omega)
      have HN : Hid (tileP dl kl ol (M.pr.drop (q + 1)) (up + nup) (kk + nk) (co + nc)) := i4
      have HBr : Hid (Below W.heap.size W (wr.alloc (.cells #[i64 np, i64 ns, i64 up, i64 nup, i64 kk, i64 nk, i64 co, i64 nc] 91))) := below_two HR.out.1 (below_one _ _)
      clear HR hp hpm hqt hb4 i4 q1 q2 q3
      go_wp2_with fail
      go_quiet (fail)
      go_wp2_with fail
      go_roundw
      case rel => exact ⟨q + 1, up + nup, kk + nk, co + nc, by go_num, by go_num, by go_num, by go_num, by omega, by omega, by omega, by omega, below_two HBr.out (below_drewN (Below.refl _ _) _), HN.out⟩
      case measure => simp [intOf]; omega
    · have hqe : q = pl := by omega
      have hti := HR.out.2
      rw [List.drop_eq_nil_of_le (by have := HLN.out.1; omega)] at hti
      obtain ⟨rfl, rfl, rfl⟩ := hti
      subst hqe
      have HB1 : Hid (Below W.heap.size W wr) := HR.out.1
      have c3w := (HB1.out.cell (p := ⟨m, 3, none⟩) hml).trans c3
      have c4w := (HB1.out.cell (p := ⟨m, 4, none⟩) hml).trans c4
      have c5w := (HB1.out.cell (p := ⟨m, 5, none⟩) hml).trans c5
      have c6w := (HB1.out.cell (p := ⟨m, 6, none⟩) hml).trans c6
      have hmlr : m < wr.heap.size := Nat.lt_of_lt_of_le hml HB1.out.size
      clear HR c3 c4 c5
      go_wp2_with fail
      go_loopw [9, 271] (fun uv iv wr => ∃ q u : Nat, iv = .int .i64 (q : Int) ∧ uv = .int .i64 (u : Int) ∧ q ≤ cl ∧ u ≤ 40000 ∧ Hid (Below W.heap.size W wr ∧ tileC ul (M.cs.drop q) u)) (fun _ iv _ => cl - (intOf iv).toNat)
      case atStart => exact ⟨0, 0, rfl, rfl, by omega, by omega, HB1.out, by rw [HLN.out.2.2.1]; exact HA.out.cl.tile⟩
      case round =>
        obtain ⟨q2, u2, rfl, rfl, hq2, hu2, HR⟩ := hrel
        by_cases hql2 : q2 < cl
        · have hqt : q2 < M.cs.length := by have := HLN.out.2.1; omega
          obtain ⟨p, hp⟩ : ∃ p, M.cs[q2]? = some p := ⟨_, List.getElem?_eq_getElem hqt⟩
          have hpm := List.mem_of_getElem? hp
          have hti := HR.out.2
          rw [List.drop_eq_getElem_cons hqt, show M.cs[q2] = p by have := List.getElem?_eq_getElem hqt; rw [hp] at this; injection this with this; exact this.symm] at hti
          obtain ⟨i1, i4⟩ := hti
          obtain ⟨j1, j2q, j3⟩ := HA.out.cl.each p hpm
          rw [← HLN.out.2.2.1] at j3
          obtain ⟨pr, hpr⟩ : ∃ pr, M.pr[p.p]? = some pr := ⟨_, List.getElem?_eq_getElem j1⟩
          rw [hpr] at j2q
          have j2 : p.nup = pr.nup := j2q
          clear j2q
          rw [← HLN.out.1] at j1
          obtain ⟨b, hb1, hb2, hb3, hb4⟩ := HC.out q2 p hp
          obtain ⟨b', hc1, hc2, hc3, hc4⟩ := HP.out p.p pr hpr
          have hbl : b < wr.heap.size := Nat.lt_of_lt_of_le hb2 HR.out.1.size
          have hcl' : b' < wr.heap.size := Nat.lt_of_lt_of_le hc2 HR.out.1.size
          have g0 := (HR.out.1.cell (p := ⟨b, q2 * 3, none⟩) hb2).trans (hb4 0 _ rfl)
          have g1 := (HR.out.1.cell (p := ⟨b, q2 * 3 + 1, none⟩) hb2).trans (hb4 1 _ rfl)
          have g2 := (HR.out.1.cell (p := ⟨b, q2 * 3 + 2, none⟩) hb2).trans (hb4 2 _ rfl)
          have g3 := (HR.out.1.cell (p := ⟨b', p.p * 8 + 3, none⟩) hc2).trans (hc4 3 _ rfl)
          have c2r := (HR.out.1.cell (p := ⟨m, 2, none⟩) hml).trans c2
          have hmlr2 : m < wr.heap.size := Nat.lt_of_lt_of_le hml HR.out.1.size
          obtain ⟨pp, up, nup⟩ := p
          simp only at i1 i4 j1 j2 j3 g0 g1 g2 g3
          rw [← j2] at g3
          subst i1 hb1 hc1
          have dq : decide ((q2 : Int) < (cl : Int)) = true := decide_eq_true (by omega)
          have r1 : decide ((q : Int) ≤ (pp : Int)) = false := decide_eq_false (by omega)
          have r2 : decide (q ≤ pp) = false := decide_eq_false (by omega)
          have HN : Hid (tileC ul (M.cs.drop (q2 + 1)) (up + nup)) := i4
          have HB2 : Hid (Below W.heap.size W (wr.alloc (.cells #[i64 pp, i64 up, i64 nup] 69))) := below_two HR.out.1 (below_one _ _)
          have hnb : ¬ b' = wr.heap.size := by omega
          have hnm : ¬ m = wr.heap.size := by omega
          clear HR hp hpm hqt hb4 hc4 i4 hpr j2
          go_wp2_with fail
          go_quiet (fail)
          go_wp2_with fail
          go_roundw
          case rel => exact ⟨q2 + 1, up + nup, by go_num, by go_num, by omega, by omega, below_two HB2.out (below_drewN (Below.refl _ _) _), HN.out⟩
          case measure => simp [intOf]; omega
        · have hqe : q2 = cl := by omega
          have hti := HR.out.2
          rw [List.drop_eq_nil_of_le (by have := HLN.out.2.1; omega)] at hti
          have hti : u2 = ul := hti
          subst hti hqe
          have HB2 : Hid (Below W.heap.size W wr) := HR.out.1
          have c7w := (HB2.out.cell (p := ⟨m, 7, none⟩) hml).trans c7
          have hmlr2 : m < wr.heap.size := Nat.lt_of_lt_of_le hml HB2.out.size
          clear HR
          go_wp2_with fail
          go_loopw [325] (fun iv wr => ∃ q3 : Nat, iv = .int .i64 (q3 : Int) ∧ q3 ≤ u2 ∧ Hid (Below W.heap.size W wr)) (fun iv _ => u2 - (intOf iv).toNat)
          case atStart => exact ⟨0, rfl, by omega, HB2⟩
          case round =>
            obtain ⟨q3, rfl, hq3, HR⟩ := hrel
            by_cases hql3 : q3 < u2
            · obtain ⟨x, hx⟩ : ∃ x, M.ux[q3]? = some x := ⟨_, List.getElem?_eq_getElem (by have := HLN.out.2.2.1; omega)⟩
              have hxc := HA.out.cl.ux x (List.mem_of_getElem? hx)
              rw [← HLN.out.2.2.2.1] at hxc
              obtain ⟨b, hb1, hb2, hb3, hb4⟩ := HU.out q3 x hx
              have hbl : b < wr.heap.size := Nat.lt_of_lt_of_le hb2 HR.out.size
              have g0 := hb4 0 _ rfl
              rw [Nat.mul_one, Nat.add_zero] at g0
              have g0 := (HR.out.cell (p := ⟨b, q3, none⟩) hb2).trans g0
              have c8r := (HR.out.cell (p := ⟨m, 8, none⟩) hml).trans c8
              have hmlr3 : m < wr.heap.size := Nat.lt_of_lt_of_le hml HR.out.size
              subst hb1
              have dq : decide ((q3 : Int) < (u2 : Int)) = true := decide_eq_true (by omega)
              have r1 : decide ((xl : Int) ≤ (x : Int)) = false := decide_eq_false (by omega)
              have r2 : decide (xl ≤ x) = false := decide_eq_false (by omega)
              clear hx hb4
              go_wp2_with fail
              go_roundw
              case rel => exact ⟨q3 + 1, by go_num, by omega, HR⟩
              case measure => simp [intOf]; omega
            · have hqe : q3 = u2 := by omega
              subst hqe
              have c9w := (HR.out.cell (p := ⟨m, 9, none⟩) hml).trans c9
              have hmlr3 : m < wr.heap.size := Nat.lt_of_lt_of_le hml HR.out.size
              clear HC HP HU
              go_wp2_with fail
              go_loopw [18, 346] (fun ov iv wr => ∃ q4 o : Nat, iv = .int .i64 (q4 : Int) ∧ ov = .int .i64 (o : Int) ∧ q4 ≤ tl ∧ o ≤ 40000 ∧ Hid (Below W.heap.size W wr ∧ o = ((M.th.map (fun t => t.op.length)).take q4).sum)) (fun _ iv _ => tl - (intOf iv).toNat)
              case atStart => exact ⟨0, 0, rfl, rfl, by omega, by omega, HR.out, by simp⟩
              case round =>
                obtain ⟨q4, o, rfl, rfl, hq4, ho9, HS⟩ := hrel
                by_cases hql4 : q4 < tl
                · have hqt : q4 < M.th.length := by have := HLN.out.2.2.2.2.1; omega
                  have HT1 := HTH.out q4 wr hql4 HS.out.1
                  have hos : (M.th.map (fun t => t.op.length))[q4]? = some (M.t q4).op.length := by
                    rw [List.getElem?_map, List.getElem?_eq_getElem hqt]
                    show some _ = some _
                    congr 2
                    unfold Mc.t
                    rw [List.getElem?_eq_getElem hqt]
                    rfl
                  have hsn := opSum_take _ hos
                  have hle := opSum_le (M.th.map (fun t => t.op.length)) (q4 + 1)
                  have hcnt := HA.out.cl.cnt
                  have hcle : M.ce.countP (fun c => decide (0 ≤ c.th)) ≤ M.ce.length := List.countP_le_length
                  have hce := HA.out.ux.2
                  have HNO : Hid (o + (M.t q4).op.length = ((M.th.map (fun t => t.op.length)).take (q4 + 1)).sum) := by
                    show _ = _
                    rw [hsn, ← HS.out.2]
                  have hob : o + (M.t q4).op.length ≤ 6120 := by have := HNO.out; omega
                  have HOC : Hid (∀ w, Below W.heap.size W w → ∃ ad cp, w.cell? ⟨a, q4 * 5 + 4, none⟩ = some (.slice ad (M.t q4).op.length cp)) := fun w hb => HOP.out q4 w hql4 hb
                  have dq : decide ((q4 : Int) < (tl : Int)) = true := decide_eq_true (by omega)
                  have bq : ((q4 : Int) == -1) = false := by rw [beq_eq_false_iff_ne]; omega
                  have HBS : Hid (Below W.heap.size W wr) := HS.out.1
                  clear HS hos hsn hle hcnt hcle hce hqt
                  generalize (M.t q4).op.length = opl at *
                  go_wp2_with fail
                  refine HT1.mono ?_; rintro e w5 ⟨rfl, hb5⟩
                  have HB5 : Hid (Below W.heap.size W w5) := below_two HBS.out hb5
                  obtain ⟨oad, ocp, o1⟩ := HOC.out w5 HB5.out
                  have c9r := (HB5.out.cell (p := ⟨m, 9, none⟩) hml).trans c9
                  have hmlr5 : m < w5.heap.size := Nat.lt_of_lt_of_le hml HB5.out.size
                  have halr5 : a < w5.heap.size := Nat.lt_of_lt_of_le hal HB5.out.size
                  clear hb5 HT1 HBS HOC
                  go_wp2_with fail
                  go_roundw
                  case rel => exact ⟨q4 + 1, o + opl, by go_num, by go_num, by omega, by omega, HB5.out, HNO.out⟩
                  case measure => simp [intOf]; omega
                · have hqe : q4 = tl := by omega
                  have HOT : Hid (o = M.ce.countP (fun c => decide (0 ≤ c.th))) := by
                    show _ = _
                    rw [HS.out.2, hqe, HLN.out.2.2.2.2.1, ← List.length_map (f := fun t : Th => t.op.length), List.take_length]
                    exact HA.out.cl.cnt
                  have HB6 : Hid (Below W.heap.size W wr) := HS.out.1
                  subst hqe
                  have c8w := (HB6.out.cell (p := ⟨m, 8, none⟩) hml).trans c8
                  have hmlr6 : m < wr.heap.size := Nat.lt_of_lt_of_le hml HB6.out.size
                  clear HS HTH HOP
                  go_wp2_with fail
                  go_loopw [18, 379] (fun ov iv wr => ∃ q5 o5 : Nat, iv = .int .i64 (q5 : Int) ∧ ov = .int .i64 (o5 : Int) ∧ q5 ≤ xl ∧ o5 ≤ 40000 ∧ Hid (Below W.heap.size W wr ∧ o5 + (M.ce.take q5).countP (fun c => decide (0 ≤ c.th)) = M.ce.countP (fun c => decide (0 ≤ c.th)))) (fun _ iv _ => xl - (intOf iv).toNat)
                  case atStart => exact ⟨0, o, rfl, rfl, by omega, by omega, HB6.out, by rw [HOT.out]; simp⟩
                  case round =>
                    obtain ⟨q5, o5, rfl, rfl, hq5, ho5, HS⟩ := hrel
                    by_cases hql5 : q5 < xl
                    · obtain ⟨x, hx⟩ : ∃ x, M.ce[q5]? = some x := ⟨_, List.getElem?_eq_getElem (by have := HLN.out.2.2.2.1; omega)⟩
                      have hct := count_take M.ce hx
                      have hle := count_le M.ce (q5 + 1)
                      have hxx : M.x q5 = x := by unfold Mc.x; rw [hx]; rfl
                      have hcec := HA.out.cl.cec q5 (by have := HLN.out.2.2.2.1; omega)
                      rw [hxx] at hcec
                      obtain ⟨b, hb1, hb2, hb3, hb4⟩ := HX.out q5 x hx
                      have hbl : b < wr.heap.size := Nat.lt_of_lt_of_le hb2 HS.out.1.size
                      have g0 := (HS.out.1.cell (p := ⟨b, q5 * 5, none⟩) hb2).trans (hb4 0 _ rfl)
                      have g1 := (HS.out.1.cell (p := ⟨b, q5 * 5 + 1, none⟩) hb2).trans (hb4 1 _ rfl)
                      have g2 := (HS.out.1.cell (p := ⟨b, q5 * 5 + 2, none⟩) hb2).trans (hb4 2 _ rfl)
                      have g3 := (HS.out.1.cell (p := ⟨b, q5 * 5 + 3, none⟩) hb2).trans (hb4 3 _ rfl)
                      have g4 := (HS.out.1.cell (p := ⟨b, q5 * 5 + 4, none⟩) hb2).trans (hb4 4 _ rfl)
                      obtain ⟨xt, xat, T, N, S⟩ := x
                      simp only at hct hcec g0 g1 g2 g3 g4
                      subst hb1
                      have dq : decide ((q5 : Int) < (xl : Int)) = true := decide_eq_true (by omega)
                      have hse := HS.out.2
                      by_cases h0 : 0 ≤ xt
                      · rw [if_pos h0] at hct
                        have d0 : decide (0 ≤ xt) = true := decide_eq_true h0
                        obtain ⟨o6, rfl⟩ : ∃ o6, o5 = o6 + 1 := ⟨o5 - 1, by omega⟩
                        have HNO : Hid (o6 + (M.ce.take (q5 + 1)).countP (fun c => decide (0 ≤ c.th)) = M.ce.countP (fun c => decide (0 ≤ c.th))) := by show _ = _; omega
                        have HB7 : Hid (Below W.heap.size W (wr.alloc (.cells #[.int .i64 xt, i64 xat, .int .i64 T, .int .u64 (N : Int), .string ⟨S.toArray⟩] 95))) := below_two HS.out.1 (below_one _ _)
                        clear HS hx hxx hb4 hse hct hle hcec
                        go_wp2_with fail
                        go_roundw
                        case rel => exact ⟨q5 + 1, o6, by go_num, by go_num, by omega, by omega, HB7.out, HNO.out⟩
                        case measure => simp [intOf]; omega
                      · rw [if_neg h0] at hct
                        have d0 : decide (0 ≤ xt) = false := decide_eq_false h0
                        obtain ⟨z1, z2⟩ := hcec h0
                        subst z1 z2
                        have HNO : Hid (o5 + (M.ce.take (q5 + 1)).countP (fun c => decide (0 ≤ c.th)) = M.ce.countP (fun c => decide (0 ≤ c.th))) := by show _ = _; omega
                        have HB7 : Hid (Below W.heap.size W (wr.alloc (.cells #[.int .i64 (-1), i64 0, .int .i64 T, .int .u64 (N : Int), .string ⟨S.toArray⟩] 95))) := below_two HS.out.1 (below_one _ _)
                        clear HS hx hxx hb4 hse hct hle hcec
                        go_wp2_with fail
                        go_roundw
                        case rel => exact ⟨q5 + 1, o5, by go_num, by go_num, by omega, by omega, HB7.out, HNO.out⟩
                        case measure => simp [intOf]; omega
                    · have hqe : q5 = xl := by omega
                      have ho0 : o5 = 0 := by
                        have h := HS.out.2
                        rw [hqe, HLN.out.2.2.2.1, List.take_length] at h
                        omega
                      subst ho0 hqe
                      have HV1 := HVA.out wr HS.out.1
                      have HB8 : Hid (Below W.heap.size W wr) := HS.out.1
                      clear HS HVA
                      go_wp2_with fail
                      refine HV1.mono ?_; rintro e w9 ⟨rfl, hb9⟩
                      have HB9 : Hid (Below W.heap.size W w9) := below_two HB8.out hb9
                      clear hb9 HV1
                      go_wp2_with fail
                      go_ret
                      exact ⟨rfl, HB9.out⟩
theorem checkM_any {own : Nat → Nat} {W : World} {m a nb tp : Nat} {M : Mc} (HV : Vm own W m a nb tp M) (hR : Rest M) :
    Calls Tryz.prog 12 #[.pointer (some ⟨m, 0, none⟩)] W fun e W' => e = .returned (.bool true) ∧ Below W.heap.size W W' := by
  have HN := numCheck_any HV
  obtain ⟨hRS, hG, c1, c0, hml⟩ := HV.tabR
  have HT := rcheck own tp M.tb W hRS hG
  have HC : Hid (∀ w, Below W.heap.size W w → Calls Tryz.prog 32 #[.pointer (some ⟨m, 0, none⟩), .int .i64 (-1), .int .i64 0] w fun e w' => e = .returned (.bool true) ∧ Below w.heap.size w w') := by
    intro w hb
    rcases hR with h | h
    · exact check_alive (HV.below hb) h
    · exact check_ended (HV.below hb) h
  clear HV hR hRS hG
  go_enter Tryz.func12, Tryz.ntmps12
  go_wp2_with fail
  refine HN.mono ?_; rintro e w1 ⟨rfl, hq⟩; have hq := hq.symm; subst hq
  clear HN
  go_wp2_with fail
  refine HT.mono ?_; rintro e w2 ⟨rfl, hb⟩
  have HB : Hid (Below W.heap.size W w2) := hb
  have HC2 := HC.out w2 hb
  clear hb HT HC
  go_wp2_with fail
  refine HC2.mono ?_; rintro e w3 ⟨rfl, hb3⟩
  have HB3 : Hid (Below W.heap.size W w3) := below_two HB.out hb3
  clear hb3 HC2
  go_wp2_with fail
  go_ret
  exact ⟨rfl, HB3.out⟩
end Go.Proofs.Qxb6500293aGreatRR
