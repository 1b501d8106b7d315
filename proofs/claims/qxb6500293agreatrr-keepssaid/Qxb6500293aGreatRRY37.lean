/-
  call walked: its head; a closure is called; what is no function.
-/
import Derived.Test.Qxb6500293aGreatRRY36
namespace Go.Proofs.Qxb6500293aGreatRR
open Go.RowKit
open Ieee (double)
set_option linter.unusedVariables false
set_option linter.unusedSimpArgs false

set_option maxRecDepth 16000 in
set_option maxHeartbeats 8000000 in
theorem call_deep {own : Nat → Nat} {W : World} {m a nb tp : Nat} {M : Mc} (HV : Vm own W m a nb tp M) {i : Nat} (hA : Alive M (some i)) (hi : i < M.th.length) {fb n cp : Nat} (hfr : W.cell? ⟨a, i * 5 + 3, none⟩ = some (.slice (some ⟨fb, 0, none⟩) (n + 1) cp)) (hln : (M.t i).fr.length = n + 1) (x q : Nat) (hx : x ≤ 3) (hq : (M.t i).sk.length = q + 1 + x) (hpc : (M.t i).f.pc < (M.p (M.t i).f.clo).nc) (hfu : ¬ M.fuel = 0) (h5 : ((M.t i).sk[q]?.getD nilV).T = 5) (h8 : n = 7) :
    Calls Tryz.prog 90 #[.pointer (some ⟨m, 0, none⟩), i64 i, .pointer (some ⟨a, i * 5, none⟩), .pointer (some ⟨fb, n * 5, none⟩), i64 x] W (OuEnd own W m a nb tp (callP M i x) evV) := by
  obtain ⟨r1, r2, r3, r4, r5, r6, r7⟩ := hA.runs hi
  have hpc9 : (M.t i).f.pc ≤ 65535 := by have := (hA.st.each _ (hA.prc r4)).2.2.2.2; omega
  have hsk := sk_bound hA hi
  have R1 : Rm own W m a nb tp i [(W.heap.size, zEv)] M (W.alloc zEv) := (Rm.start HV).alloc zEv rfl
  obtain ⟨own1, hv1, hN1⟩ := R1.vm
  have HB := burn_f hv1 hA.ou.fuel i
  have HR2 : Hid (∀ w1, Nf own1 (W.alloc zEv) m a nb tp i { M with fuel := M.fuel - 1 } w1 → Rm own W m a nb tp i [(W.heap.size, zEv)] { M with fuel := M.fuel - 1 } w1) := hN1 _
  have hbk : burnP M = ok { M with fuel := M.fuel - 1 } () := if_neg hfu
  rw [hbk] at HB
  have HO0 : Hid (callP M i x = callB { M with fuel := M.fuel - 1 } i x) := callP_eq x hfu
  obtain ⟨fn, hfn⟩ : ∃ fn, fn = (M.t i).sk[q]?.getD nilV := ⟨_, rfl⟩
  have HFN : Hid (fn = (M.t i).sk[q]?.getD nilV) := hfn
  rw [← hfn] at h5
  clear hfn
  obtain ⟨fT, fN, fS⟩ := fn
  have hfa := Th.f_at (t := M.t i) r2
  rw [hln, Nat.add_sub_cancel] at hfa
  obtain ⟨pc, hpce⟩ : ∃ pc, pc = (M.t i).f.pc := ⟨_, rfl⟩
  have HH : Hid (Vm own W m a nb tp M ∧ Alive M (some i) ∧ W.cell? ⟨a, i * 5 + 3, none⟩ = some (.slice (some ⟨fb, 0, none⟩) (n + 1) cp) ∧ (M.t i).fr.length = n + 1 ∧ (M.t i).sk.length = q + 1 + x ∧ (M.t i).fr[n]? = some (M.t i).f ∧ pc = (M.t i).f.pc) := ⟨HV, hA, hfr, hln, hq, hfa, hpce⟩
  have HKT : Hid (i < (M.kk i).th.length ∧ ((M.kk i).t i).sk = (M.t i).sk ∧ ((M.kk i).t i).fr.length = (M.t i).fr.length) := by
    have e1 : (M.kk i).t i = (M.t i).setF { (M.t i).f with pc := (M.t i).f.pc + 1 } := t_setT hi _
    refine ⟨by show i < (Mc.setT _ i _).th.length; rw [th_setT]; exact hi, by rw [e1]; rfl, by rw [e1]; exact List.length_set⟩
  rw [← hpce] at hpc9
  clear HV hv1 hN1 R1 hbk hfu r1 r2 r3 r4 r5 r6 r7 hpc hA hfr hln hfa hpce
  rw [hq] at hsk
  clear hq
  simp only at h5
  have H5 : Hid (fT = 5) := h5
  have H8 : Hid (n = 7) := h8
  clear h5 h8
  go_enter Tryz.func90, Tryz.ntmps90
  go_wp2_with fail
  refine HB.mono ?_; rintro e w1 hE
  rcases hE with ⟨_, rfl, hNf⟩ | ⟨h, _⟩ | ⟨h, _⟩
  rotate_left
  · cases h
  · cases h
  have R2 := HR2.out w1 hNf
  obtain ⟨own2, hv2, hN2⟩ := R2.vm
  obtain ⟨sb, scp, s1, s2, s3, s4, s5, sz, s6, s7, s8⟩ := hv2.skE (i := i) hi (k := q) (by show q < (M.t i).sk.length; rw [HH.out.2.2.2.2.1]; omega)
  rw [show (({ M with fuel := M.fuel - 1 } : Mc).t i).sk.length = q + 1 + x from HH.out.2.2.2.2.1] at s1 s2
  rw [show (({ M with fuel := M.fuel - 1 } : Mc).t i).sk[q]?.getD nilV = ⟨fT, fN, fS⟩ from HFN.out.symm] at s6 s7 s8
  simp only at s6 s7 s8
  have hlt2 := hv2.alt
  have f0 : w1.cell? ⟨a, i * 5 + 3, none⟩ = some (.slice (some ⟨fb, 0, none⟩) (n + 1) cp) := R2.rn.frs.trans HH.out.2.2.1
  have hna : ¬ a = fb := (hv2.fna hi f0).1
  have hsbf : ¬ sb = fb := by have := (hv2.fna hi f0).2.2.1; rintro rfl; omega
  obtain ⟨_, hfb2, _, fz, _, f3, _, _, _, f8⟩ := hv2.frame (i := i) hi f0 HH.out.2.2.2.2.2.1
  have R3 := hN2 _ _ (f8 1 (i64 ((M.t i).f.pc + 1)) { (M.t i).f with pc := (M.t i).f.pc + 1 } (by omega) rfl)
  rw [kk_set HH.out.2.2.2.1, ← HH.out.2.2.2.2.2.2] at R3
  have R4 := R3.alloc (vBox fT fN fS) (n := w1.heap.size) (by simp only [size_set])
  rw [← HH.out.2.2.2.2.2.2] at f3
  have fz1 := fz (n * 5 + 1)
  clear fz f8 hN2 hv2 HR2 HB hNf R2 R3 s4 s5 sz
  go_upto_region 7 with fail
  rw [Nat.add_sub_cancel_left]
  have eW : (w1.setCell ⟨fb, n * 5 + 1, none⟩ (.int .i64 ((pc : Int) + 1))).alloc (.cells #[.int .i64 fT, .int .u64 (fN : Int), .string ⟨fS.toArray⟩] 33) = (w1.setCell ⟨fb, n * 5 + 1, none⟩ (i64 (pc + 1))).alloc (vBox fT fN fS) := by rw [show ((pc : Int) + 1) = ((pc + 1 : Nat) : Int) by omega]
  rw [eW]
  have HW4 : Hid (w1.heap.size < ((w1.setCell ⟨fb, n * 5 + 1, none⟩ (i64 (pc + 1))).alloc (vBox fT fN fS)).heap.size) := by show _ < _; simp
  have s1w : ((w1.setCell ⟨fb, n * 5 + 1, none⟩ (i64 (pc + 1))).alloc (vBox fT fN fS)).cell? ⟨a, i * 5 + 2, none⟩ = some (.slice (some ⟨sb, 0, none⟩) (q + 1 + x) scp) := ((below_one (w1.setCell ⟨fb, n * 5 + 1, none⟩ (i64 (pc + 1))) (vBox fT fN fS)).cell (p := ⟨a, i * 5 + 2, none⟩) (by simp only [size_set]; exact hlt2)).trans ((World.cell?_of_block (a := ⟨a, i * 5 + 2, none⟩) (Below.heap_setCell _ _ _ _ hna)).trans s1)
  clear eW s1 s6 s7 s8 f0 f3 fz1 hfb2 s3
  generalize (w1.setCell ⟨fb, n * 5 + 1, none⟩ (i64 (pc + 1))).alloc (vBox fT fN fS) = w4 at *
  obtain ⟨b0, b1, b2, bz⟩ := R4.val (b := w1.heap.size) (T := fT) (N := fN) (S := fS) (by simp)
  obtain ⟨own4, hv4, hN4, hX4⟩ := R4.vmX
  obtain ⟨k0, ek0, hk0, hal, hAV, hsa⟩ := hv4.args HKT.out.1 (q := q) (x := x) (by rw [HKT.out.2.1]; exact HH.out.2.2.2.2.1) s1w
  rw [HKT.out.2.1] at hal hAV
  rw [ek0]
  have HAV : Hid (AV w4.heap.size w4 (.slice (some ⟨sb, k0, none⟩) x x) ((M.t i).sk.drop (q + 1))) := hAV
  have hsl : sb < w4.heap.size := by obtain ⟨_, _, _, h1, h2, _⟩ := hAV; cases h1; exact h2
  clear hAV ek0
  have h5 := H5.out
  have h8 := H8.out
  subst h5
  have HO : Hid (callP M i x = thr (M.kk i) noEv (str [100, 101, 112, 116, 104])) := by
    show _ = _
    rw [HO0.out]
    have e1 : (({ M with fuel := M.fuel - 1 } : Mc).t i).sk.length - x - 1 = q := by show (M.t i).sk.length - x - 1 = q; rw [HH.out.2.2.2.2.1]; omega
    unfold callB
    simp only
    rw [e1, if_pos (show ((({ M with fuel := M.fuel - 1 } : Mc).t i).sk[q]?.getD nilV).T = 5 by show ((M.t i).sk[q]?.getD nilV).T = 5; rw [← HFN.out]), if_pos (by show 8 ≤ ((M.kk i).t i).fr.length; rw [HKT.out.2.2, HH.out.2.2.2.1]; omega)]
    rfl
  have HT := raise_end [100, 101, 112, 116, 104] w4
  have HSZ : Hid (∀ {b}, w4.heap.size ≤ b → W.heap.size ≤ b) := fun h => Nat.le_trans (R4.rn.choose_spec.2.2.1.size) h
  have g3 : w4.cell? ⟨a, i * 5 + 3, none⟩ = some (.slice (some ⟨fb, 0, none⟩) (n + 1) cp) := R4.rn.frs.trans HH.out.2.2.1
  have hlt4 := hv4.alt
  subst h8
  clear hv4 hN4 hX4 HH HFN HKT HAV
  go_wp2_with fail
  refine HT.mono ?_; rintro e w5 ht
  obtain ⟨bb, rfl, ht2, ht3, ht4⟩ := ht
  have HE : Hid (OuEnd own W m a nb tp (thr (M.kk i) noEv (str [100, 101, 112, 116, 104])) evV (thrE bb) w5) := .inr (.inl ⟨rfl, ⟨bb, rfl, HSZ.out ht2, ht3⟩, R4.rn.nx.below ht4⟩)
  clear ht2 ht3 ht4 R4 HT
  go_wp2_with fail
  simp [bodyPost]
  rw [HO.out]
  exact HE.out
set_option maxRecDepth 16000 in
set_option maxHeartbeats 8000000 in
theorem call_fun {own : Nat → Nat} {W : World} {m a nb tp : Nat} {M : Mc} (HV : Vm own W m a nb tp M) {i : Nat} (hA : Alive M (some i)) (hi : i < M.th.length) {fb n cp : Nat} (hfr : W.cell? ⟨a, i * 5 + 3, none⟩ = some (.slice (some ⟨fb, 0, none⟩) (n + 1) cp)) (hln : (M.t i).fr.length = n + 1) (x q : Nat) (hx : x ≤ 3) (hq : (M.t i).sk.length = q + 1 + x) (hpc : (M.t i).f.pc < (M.p (M.t i).f.clo).nc) (hfu : ¬ M.fuel = 0) (h5 : ((M.t i).sk[q]?.getD nilV).T = 5) (h8 : n < 7) :
    Calls Tryz.prog 90 #[.pointer (some ⟨m, 0, none⟩), i64 i, .pointer (some ⟨a, i * 5, none⟩), .pointer (some ⟨fb, n * 5, none⟩), i64 x] W (OuEnd own W m a nb tp (callP M i x) evV) := by
  obtain ⟨r1, r2, r3, r4, r5, r6, r7⟩ := hA.runs hi
  have hpc9 : (M.t i).f.pc ≤ 65535 := by have := (hA.st.each _ (hA.prc r4)).2.2.2.2; omega
  have hsk := sk_bound hA hi
  have R1 : Rm own W m a nb tp i [(W.heap.size, zEv)] M (W.alloc zEv) := (Rm.start HV).alloc zEv rfl
  obtain ⟨own1, hv1, hN1⟩ := R1.vm
  have HB := burn_f hv1 hA.ou.fuel i
  have HR2 : Hid (∀ w1, Nf own1 (W.alloc zEv) m a nb tp i { M with fuel := M.fuel - 1 } w1 → Rm own W m a nb tp i [(W.heap.size, zEv)] { M with fuel := M.fuel - 1 } w1) := hN1 _
  have hbk : burnP M = ok { M with fuel := M.fuel - 1 } () := if_neg hfu
  rw [hbk] at HB
  have HO0 : Hid (callP M i x = callB { M with fuel := M.fuel - 1 } i x) := callP_eq x hfu
  obtain ⟨fn, hfn⟩ : ∃ fn, fn = (M.t i).sk[q]?.getD nilV := ⟨_, rfl⟩
  have HFN : Hid (fn = (M.t i).sk[q]?.getD nilV) := hfn
  rw [← hfn] at h5
  clear hfn
  obtain ⟨fT, fN, fS⟩ := fn
  have hfa := Th.f_at (t := M.t i) r2
  rw [hln, Nat.add_sub_cancel] at hfa
  obtain ⟨pc, hpce⟩ : ∃ pc, pc = (M.t i).f.pc := ⟨_, rfl⟩
  have HH : Hid (Vm own W m a nb tp M ∧ Alive M (some i) ∧ W.cell? ⟨a, i * 5 + 3, none⟩ = some (.slice (some ⟨fb, 0, none⟩) (n + 1) cp) ∧ (M.t i).fr.length = n + 1 ∧ (M.t i).sk.length = q + 1 + x ∧ (M.t i).fr[n]? = some (M.t i).f ∧ pc = (M.t i).f.pc) := ⟨HV, hA, hfr, hln, hq, hfa, hpce⟩
  have HKT : Hid (i < (M.kk i).th.length ∧ ((M.kk i).t i).sk = (M.t i).sk ∧ ((M.kk i).t i).fr.length = (M.t i).fr.length) := by
    have e1 : (M.kk i).t i = (M.t i).setF { (M.t i).f with pc := (M.t i).f.pc + 1 } := t_setT hi _
    refine ⟨by show i < (Mc.setT _ i _).th.length; rw [th_setT]; exact hi, by rw [e1]; rfl, by rw [e1]; exact List.length_set⟩
  rw [← hpce] at hpc9
  clear HV hv1 hN1 R1 hbk hfu r1 r2 r3 r4 r5 r6 r7 hpc hA hfr hln hfa hpce
  rw [hq] at hsk
  clear hq
  simp only at h5
  have H5 : Hid (fT = 5) := h5
  have H8 : Hid (n < 7) := h8
  clear h5 h8
  go_enter Tryz.func90, Tryz.ntmps90
  go_wp2_with fail
  refine HB.mono ?_; rintro e w1 hE
  rcases hE with ⟨_, rfl, hNf⟩ | ⟨h, _⟩ | ⟨h, _⟩
  rotate_left
  · cases h
  · cases h
  have R2 := HR2.out w1 hNf
  obtain ⟨own2, hv2, hN2⟩ := R2.vm
  obtain ⟨sb, scp, s1, s2, s3, s4, s5, sz, s6, s7, s8⟩ := hv2.skE (i := i) hi (k := q) (by show q < (M.t i).sk.length; rw [HH.out.2.2.2.2.1]; omega)
  rw [show (({ M with fuel := M.fuel - 1 } : Mc).t i).sk.length = q + 1 + x from HH.out.2.2.2.2.1] at s1 s2
  rw [show (({ M with fuel := M.fuel - 1 } : Mc).t i).sk[q]?.getD nilV = ⟨fT, fN, fS⟩ from HFN.out.symm] at s6 s7 s8
  simp only at s6 s7 s8
  have hlt2 := hv2.alt
  have f0 : w1.cell? ⟨a, i * 5 + 3, none⟩ = some (.slice (some ⟨fb, 0, none⟩) (n + 1) cp) := R2.rn.frs.trans HH.out.2.2.1
  have hna : ¬ a = fb := (hv2.fna hi f0).1
  have hsbf : ¬ sb = fb := by have := (hv2.fna hi f0).2.2.1; rintro rfl; omega
  obtain ⟨_, hfb2, _, fz, _, f3, _, _, _, f8⟩ := hv2.frame (i := i) hi f0 HH.out.2.2.2.2.2.1
  have R3 := hN2 _ _ (f8 1 (i64 ((M.t i).f.pc + 1)) { (M.t i).f with pc := (M.t i).f.pc + 1 } (by omega) rfl)
  rw [kk_set HH.out.2.2.2.1, ← HH.out.2.2.2.2.2.2] at R3
  have R4 := R3.alloc (vBox fT fN fS) (n := w1.heap.size) (by simp only [size_set])
  rw [← HH.out.2.2.2.2.2.2] at f3
  have fz1 := fz (n * 5 + 1)
  clear fz f8 hN2 hv2 HR2 HB hNf R2 R3 s4 s5 sz
  go_upto_region 7 with fail
  rw [Nat.add_sub_cancel_left]
  have eW : (w1.setCell ⟨fb, n * 5 + 1, none⟩ (.int .i64 ((pc : Int) + 1))).alloc (.cells #[.int .i64 fT, .int .u64 (fN : Int), .string ⟨fS.toArray⟩] 33) = (w1.setCell ⟨fb, n * 5 + 1, none⟩ (i64 (pc + 1))).alloc (vBox fT fN fS) := by rw [show ((pc : Int) + 1) = ((pc + 1 : Nat) : Int) by omega]
  rw [eW]
  have HW4 : Hid (w1.heap.size < ((w1.setCell ⟨fb, n * 5 + 1, none⟩ (i64 (pc + 1))).alloc (vBox fT fN fS)).heap.size) := by show _ < _; simp
  have s1w : ((w1.setCell ⟨fb, n * 5 + 1, none⟩ (i64 (pc + 1))).alloc (vBox fT fN fS)).cell? ⟨a, i * 5 + 2, none⟩ = some (.slice (some ⟨sb, 0, none⟩) (q + 1 + x) scp) := ((below_one (w1.setCell ⟨fb, n * 5 + 1, none⟩ (i64 (pc + 1))) (vBox fT fN fS)).cell (p := ⟨a, i * 5 + 2, none⟩) (by simp only [size_set]; exact hlt2)).trans ((World.cell?_of_block (a := ⟨a, i * 5 + 2, none⟩) (Below.heap_setCell _ _ _ _ hna)).trans s1)
  clear eW s1 s6 s7 s8 f0 f3 fz1 hfb2 s3
  generalize (w1.setCell ⟨fb, n * 5 + 1, none⟩ (i64 (pc + 1))).alloc (vBox fT fN fS) = w4 at *
  obtain ⟨b0, b1, b2, bz⟩ := R4.val (b := w1.heap.size) (T := fT) (N := fN) (S := fS) (by simp)
  obtain ⟨own4, hv4, hN4, hX4⟩ := R4.vmX
  obtain ⟨k0, ek0, hk0, hal, hAV, hsa⟩ := hv4.args HKT.out.1 (q := q) (x := x) (by rw [HKT.out.2.1]; exact HH.out.2.2.2.2.1) s1w
  rw [HKT.out.2.1] at hal hAV
  rw [ek0]
  have HAV : Hid (AV w4.heap.size w4 (.slice (some ⟨sb, k0, none⟩) x x) ((M.t i).sk.drop (q + 1))) := hAV
  have hsl : sb < w4.heap.size := by obtain ⟨_, _, _, h1, h2, _⟩ := hAV; cases h1; exact h2
  clear hAV ek0
  have h5 := H5.out
  have h8 := H8.out
  subst h5
  have hfnv : okV M (⟨5, fN, fS⟩ : V) := by rw [HFN.out]; exact HH.out.2.1.at hi (by rw [HH.out.2.2.2.2.1]; omega)
  have hfl : fN < M.cs.length := hfnv.fun_lt rfl
  have hA := HH.out.2.1
  have hcl := hA.clo hfl
  have hpe := hA.st.each _ (hA.prc hfl)
  have h24 := hA.cl.cs24
  have h13 := hA.st.pr13
  have HO : Hid (callP M i x = ok (enterP (M.kk i) i fN ((M.t i).sk.drop (q + 1)) q false) noEv) := by
    show _ = _
    rw [HO0.out]
    have e1 : (({ M with fuel := M.fuel - 1 } : Mc).t i).sk.length - x - 1 = q := by show (M.t i).sk.length - x - 1 = q; rw [HH.out.2.2.2.2.1]; omega
    unfold callB
    simp only
    rw [e1, if_pos (show ((({ M with fuel := M.fuel - 1 } : Mc).t i).sk[q]?.getD nilV).T = 5 by show ((M.t i).sk[q]?.getD nilV).T = 5; rw [← HFN.out]), if_neg (by show ¬ 8 ≤ ((M.kk i).t i).fr.length; rw [HKT.out.2.2, HH.out.2.2.2.1]; omega)]
    have e2 : ((({ M with fuel := M.fuel - 1 } : Mc).t i).sk[q]?.getD nilV).N = fN := by show ((M.t i).sk[q]?.getD nilV).N = fN; rw [← HFN.out]
    rw [e2]
    rfl
  have hEN := enter_any hv4 HKT.out.1 (c := fN) hfl hcl.1 hpe.1 hpe.2.2.1 (by show M.cs.length ≤ 100000; omega) (by show M.pr.length ≤ 100000; omega) (by rw [HKT.out.2.1, HH.out.2.2.2.2.1]; omega) (by rw [HKT.out.2.2, HH.out.2.2.2.1]; omega) ((M.t i).sk.drop (q + 1)) sb k0 (by omega) (by rw [hal]; exact HAV.out) hsa (fun n' cp' h => by rw [s1w] at h; injection h with h; injection h with h1 h2 h3; rw [hal, ← h2]; exact hk0) q (by omega) false
  rw [hal] at hEN
  have g3 : w4.cell? ⟨a, i * 5 + 3, none⟩ = some (.slice (some ⟨fb, 0, none⟩) (n + 1) cp) := R4.rn.frs.trans HH.out.2.2.1
  have hlt4 := hv4.alt
  have HX : Hid (∀ M2 w2, Nx own4 w4 m a nb tp M2 w2 → Rn own W m a nb tp i (w2.cell? ⟨a, i * 5 + 3, none⟩) [(w1.heap.size, vBox 5 fN fS), (W.heap.size, zEv)] M2 w2) := hX4
  have hn8 : ¬ (8 : Int) ≤ ((n + 1 : Nat) : Int) := by omega
  have hn8' : ¬ 8 ≤ n + 1 := by omega
  have hw2 : IntKind.i64.wrap (fN : Int) = (fN : Int) := IntWalk.i64_in _ ⟨by omega, by omega⟩
  clear hv4 hN4 hX4 HH HFN HKT hA hcl hpe hfnv HAV
  generalize enterP (M.kk i) i fN ((M.t i).sk.drop (q + 1)) q false = M5 at *
  go_wp2_with fail
  refine hEN.mono ?_; rintro e w5 ⟨rfl, hnx⟩
  have R5 := HX.out _ _ hnx
  obtain ⟨e60, e61, e62, e63, e64, e65, e66, e67, e68, z6⟩ := cells9 (R5.box (b := W.heap.size) (o := zEv) (by simp)).1
  have HF : Hid (∀ x0 x1 x2 x3 x4 x5 x6 x7 x8, Nx own W m a nb tp M5 (putE w5 W.heap.size x0 x1 x2 x3 x4 x5 x6 x7 x8)) := fun x0 x1 x2 x3 x4 x5 x6 x7 x8 => R5.putE (by simp) x0 x1 x2 x3 x4 x5 x6 x7 x8
  clear hEN hnx R5 HX R4
  go_wp2_with fail
  refine bodyPost_ret (v := .agg #[.int .i64 0, .int .i64 0, .int .i64 0, .int .i64 0, .int .u64 0, .string ⟨#[]⟩, .int .i64 0, .int .u64 0, .string ⟨#[]⟩]) (by first | (simp [results, go_sem]; done) | (simp [results, go_sem, e60, e61, e62, e63, e64, e65, e66, e67, e68]; done)) rfl ?_
  rw [HO.out]
  exact .inl ⟨rfl, rfl, HF.out _ _ _ _ _ _ _ _ _⟩
set_option maxRecDepth 16000 in
set_option maxHeartbeats 8000000 in
theorem call_not {own : Nat → Nat} {W : World} {m a nb tp : Nat} {M : Mc} (HV : Vm own W m a nb tp M) {i : Nat} (hA : Alive M (some i)) (hi : i < M.th.length) {fb n cp : Nat} (hfr : W.cell? ⟨a, i * 5 + 3, none⟩ = some (.slice (some ⟨fb, 0, none⟩) (n + 1) cp)) (hln : (M.t i).fr.length = n + 1) (x q : Nat) (hx : x ≤ 3) (hq : (M.t i).sk.length = q + 1 + x) (hpc : (M.t i).f.pc < (M.p (M.t i).f.clo).nc) (hfu : ¬ M.fuel = 0) (h5 : ((M.t i).sk[q]?.getD nilV).T ≠ 5) (h6 : ((M.t i).sk[q]?.getD nilV).T ≠ 6) :
    Calls Tryz.prog 90 #[.pointer (some ⟨m, 0, none⟩), i64 i, .pointer (some ⟨a, i * 5, none⟩), .pointer (some ⟨fb, n * 5, none⟩), i64 x] W (OuEnd own W m a nb tp (callP M i x) evV) := by
  obtain ⟨r1, r2, r3, r4, r5, r6, r7⟩ := hA.runs hi
  have hpc9 : (M.t i).f.pc ≤ 65535 := by have := (hA.st.each _ (hA.prc r4)).2.2.2.2; omega
  have hsk := sk_bound hA hi
  have R1 : Rm own W m a nb tp i [(W.heap.size, zEv)] M (W.alloc zEv) := (Rm.start HV).alloc zEv rfl
  obtain ⟨own1, hv1, hN1⟩ := R1.vm
  have HB := burn_f hv1 hA.ou.fuel i
  have HR2 : Hid (∀ w1, Nf own1 (W.alloc zEv) m a nb tp i { M with fuel := M.fuel - 1 } w1 → Rm own W m a nb tp i [(W.heap.size, zEv)] { M with fuel := M.fuel - 1 } w1) := hN1 _
  have hbk : burnP M = ok { M with fuel := M.fuel - 1 } () := if_neg hfu
  rw [hbk] at HB
  have HO0 : Hid (callP M i x = callB { M with fuel := M.fuel - 1 } i x) := callP_eq x hfu
  obtain ⟨fn, hfn⟩ : ∃ fn, fn = (M.t i).sk[q]?.getD nilV := ⟨_, rfl⟩
  have HFN : Hid (fn = (M.t i).sk[q]?.getD nilV) := hfn
  rw [← hfn] at h5 h6
  clear hfn
  obtain ⟨fT, fN, fS⟩ := fn
  have hfa := Th.f_at (t := M.t i) r2
  rw [hln, Nat.add_sub_cancel] at hfa
  obtain ⟨pc, hpce⟩ : ∃ pc, pc = (M.t i).f.pc := ⟨_, rfl⟩
  have HH : Hid (Vm own W m a nb tp M ∧ Alive M (some i) ∧ W.cell? ⟨a, i * 5 + 3, none⟩ = some (.slice (some ⟨fb, 0, none⟩) (n + 1) cp) ∧ (M.t i).fr.length = n + 1 ∧ (M.t i).sk.length = q + 1 + x ∧ (M.t i).fr[n]? = some (M.t i).f ∧ pc = (M.t i).f.pc) := ⟨HV, hA, hfr, hln, hq, hfa, hpce⟩
  have HKT : Hid (i < (M.kk i).th.length ∧ ((M.kk i).t i).sk = (M.t i).sk ∧ ((M.kk i).t i).fr.length = (M.t i).fr.length) := by
    have e1 : (M.kk i).t i = (M.t i).setF { (M.t i).f with pc := (M.t i).f.pc + 1 } := t_setT hi _
    refine ⟨by show i < (Mc.setT _ i _).th.length; rw [th_setT]; exact hi, by rw [e1]; rfl, by rw [e1]; exact List.length_set⟩
  rw [← hpce] at hpc9
  clear HV hv1 hN1 R1 hbk hfu r1 r2 r3 r4 r5 r6 r7 hpc hA hfr hln hfa hpce
  rw [hq] at hsk
  clear hq
  simp only at h5 h6
  have H5 : Hid (fT ≠ 5) := h5
  have H6 : Hid (fT ≠ 6) := h6
  clear h5 h6
  go_enter Tryz.func90, Tryz.ntmps90
  go_wp2_with fail
  refine HB.mono ?_; rintro e w1 hE
  rcases hE with ⟨_, rfl, hNf⟩ | ⟨h, _⟩ | ⟨h, _⟩
  rotate_left
  · cases h
  · cases h
  have R2 := HR2.out w1 hNf
  obtain ⟨own2, hv2, hN2⟩ := R2.vm
  obtain ⟨sb, scp, s1, s2, s3, s4, s5, sz, s6, s7, s8⟩ := hv2.skE (i := i) hi (k := q) (by show q < (M.t i).sk.length; rw [HH.out.2.2.2.2.1]; omega)
  rw [show (({ M with fuel := M.fuel - 1 } : Mc).t i).sk.length = q + 1 + x from HH.out.2.2.2.2.1] at s1 s2
  rw [show (({ M with fuel := M.fuel - 1 } : Mc).t i).sk[q]?.getD nilV = ⟨fT, fN, fS⟩ from HFN.out.symm] at s6 s7 s8
  simp only at s6 s7 s8
  have hlt2 := hv2.alt
  have f0 : w1.cell? ⟨a, i * 5 + 3, none⟩ = some (.slice (some ⟨fb, 0, none⟩) (n + 1) cp) := R2.rn.frs.trans HH.out.2.2.1
  have hna : ¬ a = fb := (hv2.fna hi f0).1
  have hsbf : ¬ sb = fb := by have := (hv2.fna hi f0).2.2.1; rintro rfl; omega
  obtain ⟨_, hfb2, _, fz, _, f3, _, _, _, f8⟩ := hv2.frame (i := i) hi f0 HH.out.2.2.2.2.2.1
  have R3 := hN2 _ _ (f8 1 (i64 ((M.t i).f.pc + 1)) { (M.t i).f with pc := (M.t i).f.pc + 1 } (by omega) rfl)
  rw [kk_set HH.out.2.2.2.1, ← HH.out.2.2.2.2.2.2] at R3
  have R4 := R3.alloc (vBox fT fN fS) (n := w1.heap.size) (by simp only [size_set])
  rw [← HH.out.2.2.2.2.2.2] at f3
  have fz1 := fz (n * 5 + 1)
  clear fz f8 hN2 hv2 HR2 HB hNf R2 R3 s4 s5 sz
  go_upto_region 7 with fail
  rw [Nat.add_sub_cancel_left]
  have eW : (w1.setCell ⟨fb, n * 5 + 1, none⟩ (.int .i64 ((pc : Int) + 1))).alloc (.cells #[.int .i64 fT, .int .u64 (fN : Int), .string ⟨fS.toArray⟩] 33) = (w1.setCell ⟨fb, n * 5 + 1, none⟩ (i64 (pc + 1))).alloc (vBox fT fN fS) := by rw [show ((pc : Int) + 1) = ((pc + 1 : Nat) : Int) by omega]
  rw [eW]
  have HW4 : Hid (w1.heap.size < ((w1.setCell ⟨fb, n * 5 + 1, none⟩ (i64 (pc + 1))).alloc (vBox fT fN fS)).heap.size) := by show _ < _; simp
  have s1w : ((w1.setCell ⟨fb, n * 5 + 1, none⟩ (i64 (pc + 1))).alloc (vBox fT fN fS)).cell? ⟨a, i * 5 + 2, none⟩ = some (.slice (some ⟨sb, 0, none⟩) (q + 1 + x) scp) := ((below_one (w1.setCell ⟨fb, n * 5 + 1, none⟩ (i64 (pc + 1))) (vBox fT fN fS)).cell (p := ⟨a, i * 5 + 2, none⟩) (by simp only [size_set]; exact hlt2)).trans ((World.cell?_of_block (a := ⟨a, i * 5 + 2, none⟩) (Below.heap_setCell _ _ _ _ hna)).trans s1)
  clear eW s1 s6 s7 s8 f0 f3 fz1 hfb2 s3
  generalize (w1.setCell ⟨fb, n * 5 + 1, none⟩ (i64 (pc + 1))).alloc (vBox fT fN fS) = w4 at *
  obtain ⟨b0, b1, b2, bz⟩ := R4.val (b := w1.heap.size) (T := fT) (N := fN) (S := fS) (by simp)
  obtain ⟨own4, hv4, hN4, hX4⟩ := R4.vmX
  obtain ⟨k0, ek0, hk0, hal, hAV, hsa⟩ := hv4.args HKT.out.1 (q := q) (x := x) (by rw [HKT.out.2.1]; exact HH.out.2.2.2.2.1) s1w
  rw [HKT.out.2.1] at hal hAV
  rw [ek0]
  have HAV : Hid (AV w4.heap.size w4 (.slice (some ⟨sb, k0, none⟩) x x) ((M.t i).sk.drop (q + 1))) := hAV
  have hsl : sb < w4.heap.size := by obtain ⟨_, _, _, h1, h2, _⟩ := hAV; cases h1; exact h2
  clear hAV ek0
  have h5 := H5.out
  have h6 := H6.out
  have HO : Hid (callP M i x = thr (M.kk i) noEv (str [99, 97, 108, 108])) := by
    show _ = _
    rw [HO0.out]
    have e1 : (({ M with fuel := M.fuel - 1 } : Mc).t i).sk.length - x - 1 = q := by show (M.t i).sk.length - x - 1 = q; rw [HH.out.2.2.2.2.1]; omega
    unfold callB
    simp only
    rw [e1, if_neg (show ¬ ((({ M with fuel := M.fuel - 1 } : Mc).t i).sk[q]?.getD nilV).T = 5 by show ¬ ((M.t i).sk[q]?.getD nilV).T = 5; rw [← HFN.out]; exact h5), if_pos (show ((({ M with fuel := M.fuel - 1 } : Mc).t i).sk[q]?.getD nilV).T ≠ 6 by show ((M.t i).sk[q]?.getD nilV).T ≠ 6; rw [← HFN.out]; exact h6)]
    rfl
  have HT := raise_end [99, 97, 108, 108] w4
  have HSZ : Hid (∀ {b}, w4.heap.size ≤ b → W.heap.size ≤ b) := fun h => Nat.le_trans (R4.rn.choose_spec.2.2.1.size) h
  have bT5 : (fT == 5) = false := by simpa using h5
  have bT6 : (fT != 6) = true := by simpa using h6
  clear hv4 hN4 hX4 HH HFN HKT HAV h5 h6
  go_wp2_with fail
  refine HT.mono ?_; rintro e w5 ht
  obtain ⟨bb, rfl, ht2, ht3, ht4⟩ := ht
  have HE : Hid (OuEnd own W m a nb tp (thr (M.kk i) noEv (str [99, 97, 108, 108])) evV (thrE bb) w5) := .inr (.inl ⟨rfl, ⟨bb, rfl, HSZ.out ht2, ht3⟩, R4.rn.nx.below ht4⟩)
  clear ht2 ht3 ht4 R4 HT
  go_wp2_with fail
  simp [bodyPost]
  rw [HO.out]
  exact HE.out
end Go.Proofs.Qxb6500293aGreatRR
