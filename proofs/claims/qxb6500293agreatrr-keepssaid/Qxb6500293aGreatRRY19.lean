/-
  plain walked: slots, constants, globals, ISETI, the numeric loop.
-/
import Derived.Test.Qxb6500293aGreatRRY17
namespace Go.Proofs.Qxb6500293aGreatRR
open Go.RowKit
open Ieee (double)
set_option linter.unusedVariables false
set_option linter.unusedSimpArgs false

set_option maxRecDepth 8000 in
set_option maxHeartbeats 800000 in
/-- pop, and where the stack lies behind it. -/
theorem pop_keeps {own : Nat → Nat} {W : World} {m a nb tp : Nat} {M : Mc} (HV : Vm own W m a nb tp M) {i : Nat} (hi : i < M.th.length) (h1 : 1 ≤ (M.t i).sk.length) (hs : (M.t i).sk.length ≤ 20000) {sb n cp0 : Nat} (hc : W.cell? ⟨a, i * 5 + 2, none⟩ = some (.slice (some ⟨sb, 0, none⟩) (n + 1) cp0)) :
    Calls Tryz.prog 89 #[.pointer (some ⟨a, i * 5, none⟩)] W fun e W' => e = .returned (valV (topP M i)) ∧ Nf own W m a nb tp i (dropP M i) W' ∧ W'.cell? ⟨a, i * 5 + 2, none⟩ = some (.slice (some ⟨sb, 0, none⟩) n cp0) ∧ (∀ k, k < W.heap.size → k ≠ a → W'.heap[k]? = W.heap[k]?) := by
  have HM : Hid (Vm own W m a nb tp M) := HV
  obtain ⟨vals, L, H⟩ := HV
  obtain ⟨c2, hrow, hcol⟩ := H.skRow hi
  obtain ⟨b, cp, hv, hcp, hb, d0, d1, d2⟩ := row_last hrow (j := (M.t i).sk.length - 1) (by omega)
  have HTOP : Hid (topP M i = (M.t i).sk[(M.t i).sk.length - 1]?.getD nilV) := rfl
  have la := H.alt
  have lb : b ≠ a := by rintro rfl; have := hcol b (by rw [hv]; rfl); have := H.ac; omega
  have HN : Hid (Nf own W m a nb tp i (dropP M i) (W.setCell ⟨a, i * 5 + 2, none⟩ (.slice (some ⟨b, 0, none⟩) ((M.t i).sk.length - 1) cp))) := H.skCut hi (by omega) hv
  have fz := H.az (i * 5 + 2)
  have hcc := c2
  rw [hc, hv] at hcc
  have hbn : b = sb ∧ (M.t i).sk.length = n + 1 ∧ cp = cp0 := by
    injection hcc with hcc
    injection hcc with e1 e2 e3
    injection e1 with e1
    injection e1 with e1
    exact ⟨e1.symm, e2.symm, e3.symm⟩
  obtain ⟨rfl, hn, rfl⟩ := hbn
  rw [hv] at c2
  generalize ((M.t i).sk[(M.t i).sk.length - 1]?.getD nilV) = top at *
  rw [hn] at c2 hcp d0 d1 d2 HN hs
  rw [Nat.add_sub_cancel] at d0 d1 d2 HN
  have HCE : Hid ((W.setCell ⟨a, i * 5 + 2, none⟩ (.slice (some ⟨b, 0, none⟩) n cp)).cell? ⟨a, i * 5 + 2, none⟩ = some (.slice (some ⟨b, 0, none⟩) n cp) ∧ a < (W.setCell ⟨a, i * 5 + 2, none⟩ (.slice (some ⟨b, 0, none⟩) n cp)).heap.size) := ⟨World.cell?_setCell_same' _ _ _ (by rw [c2]; rfl), by rw [size_set]; exact la⟩
  have n1 : ¬ a = W.heap.size := by omega
  have n2 : ¬ a = W.heap.size + 1 := by omega
  have n3 : ¬ b = W.heap.size := by omega
  have n4 : ¬ b = W.heap.size + 1 := by omega
  obtain ⟨vT, vN, vS⟩ := top
  clear H hrow hcol hv HM hn hc hcc
  go_enter Tryz.func89, Tryz.ntmps89
  go_wp2
  refine bodyPost_ret (v := .agg #[.int .i64 vT, .int .u64 (vN : Int), .string ⟨vS.toArray⟩]) (by simp [results, go_sem]) rfl ?_
  exact ⟨by rw [HTOP.out]; rfl, HN.out.below (below_two (below_one _ _) (below_one _ _)), ((below_two (below_one _ _) (below_one _ _)).cell (p := ⟨a, i * 5 + 2, none⟩) HCE.out.2).trans HCE.out.1, fun k hk hka => ((below_two (below_one _ _) (below_one _ _)).block k (by rw [size_set]; exact hk)).trans (Below.heap_setCell _ _ _ _ hka)⟩
set_option maxRecDepth 16000 in
set_option maxHeartbeats 1000000 in
theorem plain_5 {own : Nat → Nat} {W : World} {m a nb tp : Nat} {M : Mc} (HV : Vm own W m a nb tp M) {i : Nat} (hi : i < M.th.length) {fb n pb P sl base ns kk clo : Nat} {ad : Option Addr} {scp : Nat} (hC : PlC W m a M i fb n pb P sl base ns kk clo ad scp) (x : Nat) (hx : x < ns) :
    Calls Tryz.prog 92 #[.pointer (some ⟨m, 0, none⟩), i64 i, .pointer (some ⟨a, i * 5, none⟩), .pointer (some ⟨fb, n * 5, none⟩), .pointer (some ⟨pb, P * 8, none⟩), .int .u8 5, i64 x] W (OuEf own W m a nb tp i (plainP M i 5 x) (fun _ => .tuple #[])) := by
  have HHV : Hid (Vm own W m a nb tp M) := HV
  have HO1 : Hid (plainP M i 5 x = ok (pushP M i [slot M i x]) ()) := rfl
  obtain ⟨s1, s2, f2, f0, p1, p4, hle, hs9, hk9, HE, fl, pl⟩ := hC
  have hne : ¬ scp = base := by omega
  obtain ⟨sb, scp', t1, t2, t3, t4, t5, tz, t6, t7, t8⟩ := HV.skE hi (k := base + x) (by rw [← HE.out.1]; omega)
  have hsb : ad = some ⟨sb, 0, none⟩ := by
    have e := s1.symm.trans t1
    injection e with e
    injection e with e1 e2 e3
  subst hsb
  have hval : (M.t i).sk[base + x]?.getD nilV = slot M i x := by rw [HE.out.2.1]; rfl
  rw [hval, Nat.add_mul] at t6 t7 t8
  clear t1 t2 hval
  obtain ⟨v, hv⟩ : ∃ v, v = slot M i x := ⟨_, rfl⟩
  rw [← hv] at t6 t7 t8
  have HVV : Hid (v = slot M i x) := hv
  clear hv
  obtain ⟨vT, vN, vS⟩ := v
  simp only at t6 t7 t8
  go_enter Tryz.func92, Tryz.ntmps92
  go_wp2_with fail
  go_quiet (fail)
  rw [Nat.add_sub_cancel_left]
  have R0 : Rm own W m a nb tp i [] M (W.drewN nq) := (Rm.start HHV.out).below (below_drewN (Below.refl _ _) _)
  have g2 : (W.drewN nq).cell? ⟨fb, n * 5 + 2, none⟩ = some (i64 base) := f2
  have g0 : (W.drewN nq).cell? ⟨fb, n * 5, none⟩ = some (i64 clo) := f0
  have gl : fb < (W.drewN nq).heap.size := fl
  have hcq : (W.drewN nq).cell? ⟨a, i * 5 + 3, none⟩ = W.cell? ⟨a, i * 5 + 3, none⟩ := rfl
  have u1 : (W.drewN nq).cell? ⟨a, i * 5 + 2, none⟩ = some (.slice (some ⟨sb, 0, none⟩) sl scp) := s1
  have u6 : (W.drewN nq).cell? ⟨sb, base * 3 + x * 3, none⟩ = some (.int .i64 vT) := t6
  have u7 : (W.drewN nq).cell? ⟨sb, base * 3 + x * 3 + 1, none⟩ = some (.int .u64 (vN : Int)) := t7
  have u8 : (W.drewN nq).cell? ⟨sb, base * 3 + x * 3 + 2, none⟩ = some (.string ⟨vS.toArray⟩) := t8
  have ul : sb < (W.drewN nq).heap.size := t3
  clear s1 f2 f0 p1 p4 fl pl t6 t7 t8 t3
  generalize W.drewN nq = w0 at *
  have HSL : Hid (sl = (M.t i).sk.length) := HE.out.1
  obtain ⟨qa0, qa1, qam⟩ := R0.rn.cellM
  have HO : Hid (plainP M i 5 x = ok (pushP M i [⟨vT, vN, vS⟩]) ()) := by rw [HO1.out, ← HVV.out]; exact rfl
  have HPU := R0.rn.weak.push rfl hi (by have := HSL.out; omega) vT vN vS (n := w0.heap.size) rfl
  clear HV tz
  clear R0
  go_wp2_with fail
  refine HPU.mono ?_; rintro e w9 ⟨rfl, hN⟩
  have HN : Hid (Nf own W m a nb tp i (pushP M i [⟨vT, vN, vS⟩]) w9) := hN
  clear hN HPU
  go_wp2_with fail
  go_end0
  rw [HO.out]
  exact .inl ⟨rfl, rfl, HN.out⟩
set_option maxRecDepth 16000 in
set_option maxHeartbeats 1000000 in
theorem plain_6 {own : Nat → Nat} {W : World} {m a nb tp : Nat} {M : Mc} (HV : Vm own W m a nb tp M) {i : Nat} (hi : i < M.th.length) {fb n pb P sl base ns kk clo : Nat} {ad : Option Addr} {scp : Nat} (hC : PlC W m a M i fb n pb P sl base ns kk clo ad scp) (x : Nat) (hx : x < ns) (h1 : base + ns + 1 ≤ sl) :
    Calls Tryz.prog 92 #[.pointer (some ⟨m, 0, none⟩), i64 i, .pointer (some ⟨a, i * 5, none⟩), .pointer (some ⟨fb, n * 5, none⟩), .pointer (some ⟨pb, P * 8, none⟩), .int .u8 6, i64 x] W (OuEf own W m a nb tp i (plainP M i 6 x) (fun _ => .tuple #[])) := by
  have HHV : Hid (Vm own W m a nb tp M) := HV
  have HO1 : Hid (plainP M i 6 x = ok (setSlot (dropP M i) i x (topP M i)) ()) := rfl
  obtain ⟨s1, s2, f2, f0, p1, p4, hle, hs9, hk9, HE, fl, pl⟩ := hC
  have hne : ¬ scp = base := by omega
  obtain ⟨sb, scp', t1, t2, t3, t4, t5, tz, t6, t7, t8⟩ := HV.skE hi (k := base + x) (by rw [← HE.out.1]; omega)
  have hsb : ad = some ⟨sb, 0, none⟩ := by
    have e := s1.symm.trans t1
    injection e with e
    injection e with e1 e2 e3
  subst hsb
  have hval : (M.t i).sk[base + x]?.getD nilV = slot M i x := by rw [HE.out.2.1]; rfl
  rw [hval, Nat.add_mul] at t6 t7 t8
  clear t1 t2 hval
  obtain ⟨v, hv⟩ : ∃ v, v = slot M i x := ⟨_, rfl⟩
  rw [← hv] at t6 t7 t8
  have HVV : Hid (v = slot M i x) := hv
  clear hv
  obtain ⟨vT, vN, vS⟩ := v
  simp only at t6 t7 t8
  go_enter Tryz.func92, Tryz.ntmps92
  go_wp2_with fail
  go_quiet (fail)
  rw [Nat.add_sub_cancel_left]
  have R0 : Rm own W m a nb tp i [] M (W.drewN nq) := (Rm.start HHV.out).below (below_drewN (Below.refl _ _) _)
  have g2 : (W.drewN nq).cell? ⟨fb, n * 5 + 2, none⟩ = some (i64 base) := f2
  have g0 : (W.drewN nq).cell? ⟨fb, n * 5, none⟩ = some (i64 clo) := f0
  have gl : fb < (W.drewN nq).heap.size := fl
  have hcq : (W.drewN nq).cell? ⟨a, i * 5 + 3, none⟩ = W.cell? ⟨a, i * 5 + 3, none⟩ := rfl
  have u1 : (W.drewN nq).cell? ⟨a, i * 5 + 2, none⟩ = some (.slice (some ⟨sb, 0, none⟩) sl scp) := s1
  have u6 : (W.drewN nq).cell? ⟨sb, base * 3 + x * 3, none⟩ = some (.int .i64 vT) := t6
  have u7 : (W.drewN nq).cell? ⟨sb, base * 3 + x * 3 + 1, none⟩ = some (.int .u64 (vN : Int)) := t7
  have u8 : (W.drewN nq).cell? ⟨sb, base * 3 + x * 3 + 2, none⟩ = some (.string ⟨vS.toArray⟩) := t8
  have ul : sb < (W.drewN nq).heap.size := t3
  clear s1 f2 f0 p1 p4 fl pl t6 t7 t8 t3
  generalize W.drewN nq = w0 at *
  have HSL : Hid (sl = (M.t i).sk.length) := HE.out.1
  obtain ⟨qa0, qa1, qam⟩ := R0.rn.cellM
  obtain ⟨n', rfl⟩ : ∃ n', sl = n' + 1 := ⟨sl - 1, by omega⟩
  obtain ⟨own0, hv0, hn0⟩ := R0.vm
  obtain ⟨hi1, hl1⟩ := drop_len hi
  have HP := pop_keeps hv0 hi (by have := HSL.out; omega) (by have := HSL.out; omega) u1
  obtain ⟨u, hu⟩ : ∃ u, u = topP M i := ⟨_, rfl⟩
  rw [← hu] at HP HO1
  have HFB : Hid (((dropP M i).t i).f.base = base ∧ base + x < ((dropP M i).t i).sk.length) := by
    refine ⟨?_, by rw [hl1]; have := HSL.out; omega⟩
    rw [drop_t hi, HE.out.2.1]
    rfl
  obtain ⟨uT, uN, uS⟩ := u
  rw [valV_mk] at HP
  have HN0 : Hid (∀ M2 w2, Nf own0 w0 m a nb tp i M2 w2 → Rm own W m a nb tp i [] M2 w2) := hn0
  clear hv0 hn0 R0 HV tz hu HVV u6 u7 u8 ul g0 g2 u1
  go_wp2_with fail
  refine HP.mono ?_; rintro e w1 ⟨rfl, hN1, hc1, _⟩
  have R1 := HN0.out _ _ hN1
  obtain ⟨own1, hv1, hn1⟩ := R1.vm
  obtain ⟨sb', scp1, y1, y2, y3, y4, y5, yz, y6, y7, y8⟩ := hv1.skE hi1 (k := base + x) HFB.out.2
  have hsb' : sb' = sb := by
    have e := y1.symm.trans hc1
    injection e with e
    injection e with e1 e2 e3
    injection e1 with e1
    injection e1
  subst hsb'
  have hput := hv1.skPut hi1 HFB.out.2 hc1 ⟨uT, uN, uS⟩ i
  have HO : Hid (plainP M i 6 x = ok ((dropP M i).setT i { (dropP M i).t i with sk := ((dropP M i).t i).sk.set (base + x) ⟨uT, uN, uS⟩ }) ()) := by
    rw [HO1.out]
    show ok (setSlot (dropP M i) i x ⟨uT, uN, uS⟩) () = _
    unfold setSlot
    rw [HFB.out.1]
  have HNF : Hid (Nf own W m a nb tp i ((dropP M i).setT i { (dropP M i).t i with sk := ((dropP M i).t i).sk.set (base + x) ⟨uT, uN, uS⟩ }) (put3 w1 sb' (base * 3 + x * 3) ⟨uT, uN, uS⟩)) := by
    rw [← Nat.add_mul]
    exact (hn1 _ _ hput).rn.nf rfl
  simp only [put3] at HNF
  rw [Nat.add_mul] at y6 y7 y8
  have z0 := yz (base * 3 + x * 3)
  have z1 := yz (base * 3 + x * 3 + 1)
  have z2 := yz (base * 3 + x * 3 + 2)
  generalize (((dropP M i).t i).sk[base + x]?.getD nilV) = ov at *
  obtain ⟨oT, oN, oS⟩ := ov
  simp only at y6 y7 y8
  clear hput hn1 hv1 R1 HN0 hN1 HO1 HP yz y1 hc1
  go_wp2_with fail
  go_end0
  rw [HO.out]
  exact .inl ⟨rfl, rfl, HNF.out⟩
set_option maxRecDepth 16000 in
set_option maxHeartbeats 1000000 in
theorem plain_31 {own : Nat → Nat} {W : World} {m a nb tp : Nat} {M : Mc} (HV : Vm own W m a nb tp M) {i : Nat} (hi : i < M.th.length) {fb n pb P sl base ns kk clo : Nat} {ad : Option Addr} {scp : Nat} (hC : PlC W m a M i fb n pb P sl base ns kk clo ad scp) (x : Nat) (hx : x + 3 < ns) :
    Calls Tryz.prog 92 #[.pointer (some ⟨m, 0, none⟩), i64 i, .pointer (some ⟨a, i * 5, none⟩), .pointer (some ⟨fb, n * 5, none⟩), .pointer (some ⟨pb, P * 8, none⟩), .int .u8 31, i64 x] W (OuEf own W m a nb tp i (plainP M i 31 x) (fun _ => .tuple #[])) := by
  have HHV : Hid (Vm own W m a nb tp M) := HV
  have HO : Hid (plainP M i 31 x = ok (pushP M i [boolV (cmpW (if cmpW 5 (double.order (slot M i (x + 2)).N 0) then 4 else 6) (double.order (slot M i x).N (slot M i (x + 1)).N))]) ()) := rfl
  obtain ⟨s1, s2, f2, f0, p1, p4, hle, hs9, hk9, HE, fl, pl⟩ := hC
  have hne : ¬ scp = base := by omega
  obtain ⟨sb, scp', t1, t2, t3, t4, t5, tz, t6, t7, t8⟩ := HV.skE hi (k := base + x) (by rw [← HE.out.1]; omega)
  have hsb : ad = some ⟨sb, 0, none⟩ := by
    have e := s1.symm.trans t1
    injection e with e
    injection e with e1 e2 e3
  subst hsb
  have hval : (M.t i).sk[base + x]?.getD nilV = slot M i x := by rw [HE.out.2.1]; rfl
  rw [hval, Nat.add_mul] at t6 t7 t8
  clear t1 t2 hval
  obtain ⟨v, hv⟩ : ∃ v, v = slot M i x := ⟨_, rfl⟩
  rw [← hv] at t6 t7 t8
  have HVV : Hid (v = slot M i x) := hv
  clear hv
  obtain ⟨vT, vN, vS⟩ := v
  simp only at t6 t7 t8
  obtain ⟨sb2, scp2, a1, a2, a3, a4, hwin⟩ := HV.win4 hi (k := base + x) (by rw [← HE.out.1]; omega)
  have hsb2 : sb2 = sb := by
    have e := a1.symm.trans s1
    injection e with e
    injection e with e1 e2 e3
    injection e1 with e1
    injection e1
  subst hsb2
  rw [HE.out.2.1] at hwin
  have hwin : Win4 W sb2 ((M.t i).f.base * 3 + x * 3) (slot M i x) (slot M i (x + 1)) (slot M i (x + 2)) (slot M i (x + 3)) := by rw [← Nat.add_mul]; exact hwin
  rw [← HE.out.2.1] at hwin
  clear a1 a2 a3 a4
  go_enter Tryz.func92, Tryz.ntmps92
  go_wp2_with fail
  go_quiet (fail)
  rw [Nat.add_sub_cancel_left]
  have R0 : Rm own W m a nb tp i [] M (W.drewN nq) := (Rm.start HHV.out).below (below_drewN (Below.refl _ _) _)
  have g2 : (W.drewN nq).cell? ⟨fb, n * 5 + 2, none⟩ = some (i64 base) := f2
  have g0 : (W.drewN nq).cell? ⟨fb, n * 5, none⟩ = some (i64 clo) := f0
  have gl : fb < (W.drewN nq).heap.size := fl
  have hcq : (W.drewN nq).cell? ⟨a, i * 5 + 3, none⟩ = W.cell? ⟨a, i * 5 + 3, none⟩ := rfl
  have u1 : (W.drewN nq).cell? ⟨a, i * 5 + 2, none⟩ = some (.slice (some ⟨sb2, 0, none⟩) sl scp) := s1
  have u6 : (W.drewN nq).cell? ⟨sb2, base * 3 + x * 3, none⟩ = some (.int .i64 vT) := t6
  have u7 : (W.drewN nq).cell? ⟨sb2, base * 3 + x * 3 + 1, none⟩ = some (.int .u64 (vN : Int)) := t7
  have u8 : (W.drewN nq).cell? ⟨sb2, base * 3 + x * 3 + 2, none⟩ = some (.string ⟨vS.toArray⟩) := t8
  have ul : sb2 < (W.drewN nq).heap.size := t3
  have hwq : Win4 (W.drewN nq) sb2 (base * 3 + x * 3) (slot M i x) (slot M i (x + 1)) (slot M i (x + 2)) (slot M i (x + 3)) := ⟨hwin.lt, hwin.c0, hwin.c1, hwin.c2, hwin.c3⟩
  clear s1 f2 f0 p1 p4 fl pl t6 t7 t8 t3
  generalize W.drewN nq = w0 at *
  have HSL : Hid (sl = (M.t i).sk.length) := HE.out.1
  obtain ⟨qa0, qa1, qam⟩ := R0.rn.cellM
  obtain ⟨own0, hv0, hn0⟩ := R0.vm
  have HF := forTest (cp := scp - base - x) hv0 hi (by have := HSL.out; omega) hwq
  have HN0 : Hid (∀ M2 w2, Nf own0 w0 m a nb tp i M2 w2 → Rm own W m a nb tp i [] M2 w2) := hn0
  have hx4 : x + 4 ≤ scp - base := by omega
  have hx5 : ¬ scp - base = x := by omega
  clear hv0 hn0 R0 HV tz HVV u6 u7 u8 ul g0 g2 u1 hwin
  go_wp2_with fail
  refine HF.mono ?_; rintro e w1 ⟨rfl, hN1⟩
  have HN : Hid (Nf own W m a nb tp i (pushP M i [boolV (cmpW (if cmpW 5 (double.order (slot M i (x + 2)).N 0) then 4 else 6) (double.order (slot M i x).N (slot M i (x + 1)).N))]) w1) := (HN0.out _ _ hN1).rn.nf rfl
  clear hN1 HN0 HF
  go_wp2_with fail
  go_end0
  rw [HO.out]
  exact .inl ⟨rfl, rfl, HN.out⟩
set_option maxRecDepth 16000 in
set_option maxHeartbeats 1000000 in
theorem plain_30 {own : Nat → Nat} {W : World} {m a nb tp : Nat} {M : Mc} (HV : Vm own W m a nb tp M) {i : Nat} (hi : i < M.th.length) {fb n pb P sl base ns kk clo : Nat} {ad : Option Addr} {scp : Nat} (hC : PlC W m a M i fb n pb P sl base ns kk clo ad scp) (x : Nat) (hx : x + 3 < ns) :
    Calls Tryz.prog 92 #[.pointer (some ⟨m, 0, none⟩), i64 i, .pointer (some ⟨a, i * 5, none⟩), .pointer (some ⟨fb, n * 5, none⟩), .pointer (some ⟨pb, P * 8, none⟩), .int .u8 30, i64 x] W (OuEf own W m a nb tp i (plainP M i 30 x) (fun _ => .tuple #[])) := by
  have HHV : Hid (Vm own W m a nb tp M) := HV
  have HO1 : Hid (plainP M i 30 x = if (slot M i x).T ≠ 2 ∨ (slot M i (x + 1)).T ≠ 2 ∨ (slot M i (x + 2)).T ≠ 2 then thr M () (str mFor) else if cmpW 1 (double.order (slot M i (x + 2)).N 0) || cmpW 2 (double.order (slot M i (x + 2)).N (slot M i (x + 2)).N) then thr M () (str mFor) else ok M ()) := rfl
  obtain ⟨s1, s2, f2, f0, p1, p4, hle, hs9, hk9, HE, fl, pl⟩ := hC
  have hne : ¬ scp = base := by omega
  obtain ⟨sb, scp', t1, t2, t3, t4, t5, tz, t6, t7, t8⟩ := HV.skE hi (k := base + x) (by rw [← HE.out.1]; omega)
  have hsb : ad = some ⟨sb, 0, none⟩ := by
    have e := s1.symm.trans t1
    injection e with e
    injection e with e1 e2 e3
  subst hsb
  have hval : (M.t i).sk[base + x]?.getD nilV = slot M i x := by rw [HE.out.2.1]; rfl
  rw [hval, Nat.add_mul] at t6 t7 t8
  clear t1 t2 hval
  obtain ⟨v, hv⟩ : ∃ v, v = slot M i x := ⟨_, rfl⟩
  rw [← hv] at t6 t7 t8
  have HVV : Hid (v = slot M i x) := hv
  clear hv
  obtain ⟨vT, vN, vS⟩ := v
  simp only at t6 t7 t8
  obtain ⟨sb2, scp2, a1, a2, a3, a4, hwin⟩ := HV.win4 hi (k := base + x) (by rw [← HE.out.1]; omega)
  have hsb2 : sb2 = sb := by
    have e := a1.symm.trans s1
    injection e with e
    injection e with e1 e2 e3
    injection e1 with e1
    injection e1
  subst hsb2
  rw [HE.out.2.1] at hwin
  have hwin : Win4 W sb2 ((M.t i).f.base * 3 + x * 3) (slot M i x) (slot M i (x + 1)) (slot M i (x + 2)) (slot M i (x + 3)) := by rw [← Nat.add_mul]; exact hwin
  rw [← HE.out.2.1] at hwin
  clear a1 a2 a3 a4
  go_enter Tryz.func92, Tryz.ntmps92
  go_wp2_with fail
  go_quiet (fail)
  rw [Nat.add_sub_cancel_left]
  have R0 : Rm own W m a nb tp i [] M (W.drewN nq) := (Rm.start HHV.out).below (below_drewN (Below.refl _ _) _)
  have g2 : (W.drewN nq).cell? ⟨fb, n * 5 + 2, none⟩ = some (i64 base) := f2
  have g0 : (W.drewN nq).cell? ⟨fb, n * 5, none⟩ = some (i64 clo) := f0
  have gl : fb < (W.drewN nq).heap.size := fl
  have hcq : (W.drewN nq).cell? ⟨a, i * 5 + 3, none⟩ = W.cell? ⟨a, i * 5 + 3, none⟩ := rfl
  have u1 : (W.drewN nq).cell? ⟨a, i * 5 + 2, none⟩ = some (.slice (some ⟨sb2, 0, none⟩) sl scp) := s1
  have u6 : (W.drewN nq).cell? ⟨sb2, base * 3 + x * 3, none⟩ = some (.int .i64 vT) := t6
  have u7 : (W.drewN nq).cell? ⟨sb2, base * 3 + x * 3 + 1, none⟩ = some (.int .u64 (vN : Int)) := t7
  have u8 : (W.drewN nq).cell? ⟨sb2, base * 3 + x * 3 + 2, none⟩ = some (.string ⟨vS.toArray⟩) := t8
  have ul : sb2 < (W.drewN nq).heap.size := t3
  have hwq : Win4 (W.drewN nq) sb2 (base * 3 + x * 3) (slot M i x) (slot M i (x + 1)) (slot M i (x + 2)) (slot M i (x + 3)) := ⟨hwin.lt, hwin.c0, hwin.c1, hwin.c2, hwin.c3⟩
  clear s1 f2 f0 p1 p4 fl pl t6 t7 t8 t3
  generalize W.drewN nq = w0 at *
  have HSL : Hid (sl = (M.t i).sk.length) := HE.out.1
  obtain ⟨qa0, qa1, qam⟩ := R0.rn.cellM
  obtain ⟨own0, hv0, hn0⟩ := R0.vm
  have hx4 : x + 4 ≤ scp - base := by omega
  have hx5 : ¬ scp - base = x := by omega
  by_cases hd : ((slot M i x).T ≠ 2 ∨ (slot M i (x + 1)).T ≠ 2 ∨ (slot M i (x + 2)).T ≠ 2) ∨ (cmpW 1 (double.order (slot M i (x + 2)).N 0) || cmpW 2 (double.order (slot M i (x + 2)).N (slot M i (x + 2)).N)) = true
  · have HF := forChk (i := i) (cp := scp - base - x) hv0 hwq hd
    have HO : Hid (plainP M i 30 x = thr M () (str mFor)) := by
      rw [HO1.out]
      rcases hd with h | h
      · exact if_pos h
      · by_cases h2 : (slot M i x).T ≠ 2 ∨ (slot M i (x + 1)).T ≠ 2 ∨ (slot M i (x + 2)).T ≠ 2
        · exact if_pos h2
        · exact (if_neg h2).trans (if_pos h)
    clear hv0 hn0 HV tz HVV u6 u7 u8 ul g0 g2 u1 hwin hd HO1
    go_wp2_with fail
    refine HF.mono ?_; rintro e w1 ht
    obtain ⟨bb, rfl, ht2, ht3, ht4⟩ := ht
    have HE4 : Hid (OuEf own W m a nb tp i (thr M () (str mFor)) (fun _ => .tuple #[]) (thrE bb) w1) := R0.thrown ⟨bb, rfl, ht2, ht3, ht4⟩
    clear ht2 ht3 ht4 R0 HF
    go_wp2_with fail
    simp [bodyPost]
    rw [HO.out]
    exact HE4.out
  · have hT : (slot M i x).T = 2 ∧ (slot M i (x + 1)).T = 2 ∧ (slot M i (x + 2)).T = 2 := by omega
    have hcm : (cmpW 1 (double.order (slot M i (x + 2)).N 0) || cmpW 2 (double.order (slot M i (x + 2)).N (slot M i (x + 2)).N)) = false := by
      cases hq : (cmpW 1 (double.order (slot M i (x + 2)).N 0) || cmpW 2 (double.order (slot M i (x + 2)).N (slot M i (x + 2)).N))
      · rfl
      · exact absurd (.inr hq) hd
    have HF := forChk_ok (i := i) (cp := scp - base - x) hv0 hwq hT hcm
    have HO : Hid (plainP M i 30 x = ok M ()) := by
      rw [HO1.out]
      exact (if_neg (by omega)).trans (if_neg (by rw [hcm]; simp))
    clear hv0 hn0 HV tz HVV u6 u7 u8 ul g0 g2 u1 hwin hd HO1 hT hcm
    go_wp2_with fail
    refine HF.mono ?_; rintro e w1 ⟨rfl, hb1⟩
    have HN : Hid (Nf own W m a nb tp i M w1) := (R0.below hb1).rn.nf rfl
    clear hb1 HF R0
    go_wp2_with fail
    go_end0
    rw [HO.out]
    exact .inl ⟨rfl, rfl, HN.out⟩
end Go.Proofs.Qxb6500293aGreatRR
