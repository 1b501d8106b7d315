/-
  call walked: pcall, resume, yield.
-/
import Derived.Test.Qxb6500293aGreatRRY38
namespace Go.Proofs.Qxb6500293aGreatRR
open Go.RowKit
open Ieee (double)
set_option linter.unusedVariables false
set_option linter.unusedSimpArgs false

theorem Vm.setSt {own : Nat → Nat} {W : World} {m a nb tp : Nat} {M : Mc} (HV : Vm own W m a nb tp M) {i : Nat} (hi : i < M.th.length) (x : Nat) : Nx own W m a nb tp (M.setT i { M.t i with st := x }) (W.setCell ⟨a, i * 5, none⟩ (i64 x)) := by
  obtain ⟨vals, L, H⟩ := HV
  obtain ⟨h1, h2⟩ := H.setst (r := 0) hi (by omega) x { M.t i with st := x } rfl rfl rfl rfl rfl
  exact ⟨own, fun _ _ => rfl, ⟨_, _, h1⟩, h2⟩
set_option maxRecDepth 16000 in
set_option maxHeartbeats 8000000 in
theorem call_p_not {own : Nat → Nat} {W : World} {m a nb tp : Nat} {M : Mc} (HV : Vm own W m a nb tp M) {i : Nat} (hA : Alive M (some i)) (hi : i < M.th.length) {fb n cp : Nat} (hfr : W.cell? ⟨a, i * 5 + 3, none⟩ = some (.slice (some ⟨fb, 0, none⟩) (n + 1) cp)) (hln : (M.t i).fr.length = n + 1) (x q : Nat) (hx : x ≤ 3) (hq : (M.t i).sk.length = q + 1 + x) (hpc : (M.t i).f.pc < (M.p (M.t i).f.clo).nc) (hfu : ¬ M.fuel = 0) (h6 : ((M.t i).sk[q]?.getD nilV).T = 6) (hb : ((M.t i).sk[q]?.getD nilV).N = 6) (h0 : (((M.t i).sk.drop (q + 1))[0]?.getD nilV).T ≠ 5) :
    Calls Tryz.prog 90 #[.pointer (some ⟨m, 0, none⟩), i64 i, .pointer (some ⟨a, i * 5, none⟩), .pointer (some ⟨fb, n * 5, none⟩), i64 x] W (OuEnd own W m a nb tp (callP M i x) evV) := by
  obtain ⟨r1, r2, r3, r4, r5, r6, r7⟩ := hA.runs hi
  have hpc9 : (M.t i).f.pc ≤ 65535 := by have := (hA.st.each _ (hA.prc r4)).2.2.2.2; omega
  have hsk := sk_bound hA hi
  have R1 : Rm own W m a nb tp i [(W.heap.size, zEv)] M (W.alloc zEv) := (Rm.start HV).alloc zEv rfl
  obtain ⟨own1, hv1, hN1⟩ := R1.vm
  have HB := burn_f hv1 hA.ou.fuel i
  have HR2 : Hid (∀ w1, Nf own1 (W.alloc zEv) m a nb tp i { M with fuel := M.fuel - 1 } w1 → Rm own W m a nb tp i [(W.heap.size, zEv)] { M with fuel := M.fuel - 1 } w1) := hN1 _
  have hbk : burnP M = ok { M with fuel := M.fuel - 1 } () := if_neg hfu
  rw [hbk] at HB
  have HO0 : Hid (callP M i x = callB { M with fuel := M.fuel - 1 } i x) := callP_eq x hfu
  obtain ⟨fn, hfn⟩ : ∃ fn, fn = (M.t i).sk[q]?.getD nilV := ⟨_, rfl⟩
  have HFN : Hid (fn = (M.t i).sk[q]?.getD nilV) := hfn
  rw [← hfn] at h6 hb
  have hK := hA.fuel (n := M.fuel - 1) (by omega)
  have HK0 : Hid (Alive (M.kk i) (some i)) := hK.setPc (i := i) hi ((M.t i).f.pc + 1) (by show _ ≤ (M.p (M.t i).f.clo).nc; omega)
  have HKL : Hid ((M.kk i).th.length = M.th.length) := by show (Mc.setT _ i _).th.length = _; rw [th_setT]
  clear hK
  clear hfn
  obtain ⟨fT, fN, fS⟩ := fn
  have hfa := Th.f_at (t := M.t i) r2
  rw [hln, Nat.add_sub_cancel] at hfa
  obtain ⟨pc, hpce⟩ : ∃ pc, pc = (M.t i).f.pc := ⟨_, rfl⟩
  have HH : Hid (Vm own W m a nb tp M ∧ Alive M (some i) ∧ W.cell? ⟨a, i * 5 + 3, none⟩ = some (.slice (some ⟨fb, 0, none⟩) (n + 1) cp) ∧ (M.t i).fr.length = n + 1 ∧ (M.t i).sk.length = q + 1 + x ∧ (M.t i).fr[n]? = some (M.t i).f ∧ pc = (M.t i).f.pc) := ⟨HV, hA, hfr, hln, hq, hfa, hpce⟩
  have HKT : Hid (i < (M.kk i).th.length ∧ ((M.kk i).t i).sk = (M.t i).sk ∧ ((M.kk i).t i).fr.length = (M.t i).fr.length) := by
    have e1 : (M.kk i).t i = (M.t i).setF { (M.t i).f with pc := (M.t i).f.pc + 1 } := t_setT hi _
    refine ⟨by show i < (Mc.setT _ i _).th.length; rw [th_setT]; exact hi, by rw [e1]; rfl, by rw [e1]; exact List.length_set⟩
  rw [← hpce] at hpc9
  clear HV hv1 hN1 R1 hbk hfu r1 r2 r3 r4 r5 r6 r7 hpc hA hfr hln hfa hpce
  rw [hq] at hsk
  clear hq
  simp only at h6 hb
  have H6 : Hid (fT = 6) := h6
  have HBN : Hid (fN = 6) := hb
  clear h6 hb
  go_enter Tryz.func90, Tryz.ntmps90
  go_wp2_with fail
  refine HB.mono ?_; rintro e w1 hE
  rcases hE with ⟨_, rfl, hNf⟩ | ⟨h, _⟩ | ⟨h, _⟩
  rotate_left
  · cases h
  · cases h
  have R2 := HR2.out w1 hNf
  obtain ⟨own2, hv2, hN2⟩ := R2.vm
  obtain ⟨sb, scp, s1, s2, s3, s4, s5, sz, s6, s7, s8⟩ := hv2.skE (i := i) hi (k := q) (by show q < (M.t i).sk.length; rw [HH.out.2.2.2.2.1]; omega)
  rw [show (({ M with fuel := M.fuel - 1 } : Mc).t i).sk.length = q + 1 + x from HH.out.2.2.2.2.1] at s1 s2
  rw [show (({ M with fuel := M.fuel - 1 } : Mc).t i).sk[q]?.getD nilV = ⟨fT, fN, fS⟩ from HFN.out.symm] at s6 s7 s8
  simp only at s6 s7 s8
  have hlt2 := hv2.alt
  have f0 : w1.cell? ⟨a, i * 5 + 3, none⟩ = some (.slice (some ⟨fb, 0, none⟩) (n + 1) cp) := R2.rn.frs.trans HH.out.2.2.1
  have hna : ¬ a = fb := (hv2.fna hi f0).1
  have hsbf : ¬ sb = fb := by have := (hv2.fna hi f0).2.2.1; rintro rfl; omega
  obtain ⟨m1, hfb2, m2, fz, m3, f3, m4, m5, m6, f8⟩ := hv2.frame (i := i) hi f0 HH.out.2.2.2.2.2.1
  clear m1 m2 m3 m4 m5 m6
  have R3 := hN2 _ _ (f8 1 (i64 ((M.t i).f.pc + 1)) { (M.t i).f with pc := (M.t i).f.pc + 1 } (by omega) rfl)
  rw [kk_set HH.out.2.2.2.1, ← HH.out.2.2.2.2.2.2] at R3
  have R4 := R3.alloc (vBox fT fN fS) (n := w1.heap.size) (by simp only [size_set])
  rw [← HH.out.2.2.2.2.2.2] at f3
  have fz1 := fz (n * 5 + 1)
  clear fz f8 hN2 hv2 HR2 HB hNf R2 R3 s4 s5 sz
  go_upto_region 7 with fail
  rw [Nat.add_sub_cancel_left]
  have eW : (w1.setCell ⟨fb, n * 5 + 1, none⟩ (.int .i64 ((pc : Int) + 1))).alloc (.cells #[.int .i64 fT, .int .u64 (fN : Int), .string ⟨fS.toArray⟩] 33) = (w1.setCell ⟨fb, n * 5 + 1, none⟩ (i64 (pc + 1))).alloc (vBox fT fN fS) := by rw [show ((pc : Int) + 1) = ((pc + 1 : Nat) : Int) by omega]
  rw [eW]
  have HW4 : Hid (w1.heap.size < ((w1.setCell ⟨fb, n * 5 + 1, none⟩ (i64 (pc + 1))).alloc (vBox fT fN fS)).heap.size) := by show _ < _; simp
  have s1w : ((w1.setCell ⟨fb, n * 5 + 1, none⟩ (i64 (pc + 1))).alloc (vBox fT fN fS)).cell? ⟨a, i * 5 + 2, none⟩ = some (.slice (some ⟨sb, 0, none⟩) (q + 1 + x) scp) := ((below_one (w1.setCell ⟨fb, n * 5 + 1, none⟩ (i64 (pc + 1))) (vBox fT fN fS)).cell (p := ⟨a, i * 5 + 2, none⟩) (by simp only [size_set]; exact hlt2)).trans ((World.cell?_of_block (a := ⟨a, i * 5 + 2, none⟩) (Below.heap_setCell _ _ _ _ hna)).trans s1)
  clear eW s1 s6 s7 s8 f0 f3 fz1 hfb2 s3
  generalize (w1.setCell ⟨fb, n * 5 + 1, none⟩ (i64 (pc + 1))).alloc (vBox fT fN fS) = w4 at *
  obtain ⟨b0, b1, b2, bz⟩ := R4.val (b := w1.heap.size) (T := fT) (N := fN) (S := fS) (by simp)
  obtain ⟨own4, hv4, hN4, hX4⟩ := R4.vmX
  obtain ⟨k0, ek0, hk0, hal, hAV, hsa⟩ := hv4.args HKT.out.1 (q := q) (x := x) (by rw [HKT.out.2.1]; exact HH.out.2.2.2.2.1) s1w
  rw [HKT.out.2.1] at hal hAV
  rw [ek0]
  have HAV : Hid (AV w4.heap.size w4 (.slice (some ⟨sb, k0, none⟩) x x) ((M.t i).sk.drop (q + 1))) := hAV
  have hsl : sb < w4.heap.size := by obtain ⟨_, _, _, h1, h2, _⟩ := hAV; cases h1; exact h2
  clear hAV ek0
  have h6 := H6.out
  subst h6
  have hlt4 := hv4.alt
  have HKA : Hid (Alive (M.kk i) (some i)) := HK0.out
  clear hN4 hX4
  go_wp2_with fail
  go_loopw [14] (fun av wr => ∃ (l : List V) (ab k cap : Nat), av = .slice (some ⟨ab, k, none⟩) l.length cap ∧ l.length ≤ 3 ∧ Hid (AV w4.heap.size wr av l ∧ Below w4.heap.size w4 wr ∧ (∀ j : Nat, l[j]?.getD nilV = ((M.t i).sk.drop (q + 1))[j]?.getD nilV) ∧ ab ≠ a ∧ (ab = sb ∨ w4.heap.size ≤ ab) ∧ (∀ j : Nat, k + l.length * 3 ≤ (q + 1 + x) * 3 ∨ w4.heap.size ≤ ab))) (fun av _ => 10 - lenV av)
  case atStart => exact ⟨(M.t i).sk.drop (q + 1), sb, k0, x, by rw [hal], by omega, HAV.out, Below.refl _ _, fun _ => rfl, hsa, .inl rfl, fun _ => .inl (by rw [hal]; exact hk0)⟩
  case round =>
    obtain ⟨l, ab, k, cap, rfl, hl, HR⟩ := hrel
    by_cases hlt : l.length < 3
    · obtain ⟨av', w', happ, hav', ⟨b', cap', rfl, hge⟩, hbel⟩ := HR.out.1.grow HR.out.2.1.size (by omega) 53
      have dl : decide ((l.length : Int) < (3 : Int)) = true := decide_eq_true (by omega)
      have HREL : Hid (AV w4.heap.size w' (.slice (some ⟨b', 0, none⟩) (l.length + 1) cap') (l ++ [nilV]) ∧ Below w4.heap.size w4 w' ∧ (∀ j : Nat, (l ++ [nilV])[j]?.getD nilV = ((M.t i).sk.drop (q + 1))[j]?.getD nilV) ∧ b' ≠ a ∧ (b' = sb ∨ w4.heap.size ≤ b') ∧ (∀ j : Nat, 0 + (l ++ [nilV]).length * 3 ≤ (q + 1 + x) * 3 ∨ w4.heap.size ≤ b')) := by
        obtain ⟨_, h2, h3, h4, h5, h6⟩ := HR.out
        refine ⟨hav', h2.trans hbel, ?_, by omega, .inr hge, fun _ => .inr hge⟩
        intro j
        rw [← h3 j]
        by_cases cj : j < l.length
        · rw [List.getElem?_append_left cj]
        · by_cases ce : j = l.length
          · subst ce
            rw [List.getElem?_append_right (Nat.le_refl _), Nat.sub_self, List.getElem?_eq_none (Nat.le_refl _)]
            rfl
          · rw [List.getElem?_eq_none (by simp; omega), List.getElem?_eq_none (by omega)]
      have hll : (l ++ [nilV]).length = l.length + 1 := by simp
      have HLL : Hid ((l ++ [nilV]).length = l.length + 1) := hll
      clear hav' hbel hll HAV HR R4 hv4 HH HFN HKT HKA HK0 HO0
      go_wp2_with (at_builtin; refine wpList_append_eq rfl _ _ 53 rfl _ _ _ _ rfl rfl happ ?_)
      go_roundw
      case rel => exact ⟨l ++ [nilV], b', 0, cap', by rw [HLL.out], by rw [HLL.out]; omega, HREL⟩
      case measure => simp [lenV]; omega
    have hl3 : l.length = 3 := by omega
    have dl : decide ((l.length : Int) < (3 : Int)) = false := decide_eq_false (by omega)
    have hbw := HR.out.2.1
    have hlsz := hbw.size
    have b0 := (hbw.cell (p := ⟨w1.heap.size, 0, none⟩) HW4.out).trans b0
    have b1 := (hbw.cell (p := ⟨w1.heap.size, 1, none⟩) HW4.out).trans b1
    have b2 := (hbw.cell (p := ⟨w1.heap.size, 2, none⟩) HW4.out).trans b2
    have hw1r : w1.heap.size < wr.heap.size := Nat.lt_of_lt_of_le HW4.out hlsz
    have R5 := R4.below hbw
    have R6 := (R5.alloc (vBox 0 0 []) rfl).alloc (vBox 0 0 []) (n := wr.heap.size + 1) (by simp)
    obtain ⟨A0r, hab⟩ := HR.out.1.arg (j := 0) (by omega)
    obtain ⟨A1r, _⟩ := HR.out.1.arg (j := 1) (by omega)
    rw [HR.out.2.2.1 0, Nat.zero_mul, Nat.add_zero] at A0r
    rw [HR.out.2.2.1 1, Nat.one_mul] at A1r
    have hA := HH.out.2.1
    have vargs : ∀ v ∈ (M.t i).sk.drop (q + 1), okV M v := fun v hv => hA.skV hi v (List.mem_of_mem_drop hv)
    have va0 : okV (M.kk i) (((M.t i).sk.drop (q + 1))[0]?.getD nilV) := (arg_okV vargs 0).mono (Nat.le_refl _) (Nat.le_refl _) (by rw [HKL.out]; exact Nat.le_refl _)
    have va1 : okV (M.kk i) (((M.t i).sk.drop (q + 1))[1]?.getD nilV) := (arg_okV vargs 1).mono (Nat.le_refl _) (Nat.le_refl _) (by rw [HKL.out]; exact Nat.le_refl _)
    have hOB : Below wr.heap.size wr (box2 wr) := below_two (below_one _ _) (below_one _ _)
    have A0 : Arg (box2 wr) ab k (((M.t i).sk.drop (q + 1))[0]?.getD nilV) := by
      obtain ⟨x0, x1, x2⟩ := A0r
      exact ⟨(hOB.cell (p := ⟨ab, k, none⟩) hab).trans x0, (hOB.cell (p := ⟨ab, k + 1, none⟩) hab).trans x1, (hOB.cell (p := ⟨ab, k + 2, none⟩) hab).trans x2⟩
    have A1 : Arg (box2 wr) ab (k + 3) (((M.t i).sk.drop (q + 1))[1]?.getD nilV) := by
      obtain ⟨x0, x1, x2⟩ := A1r
      exact ⟨(hOB.cell (p := ⟨ab, k + 3, none⟩) hab).trans x0, (hOB.cell (p := ⟨ab, k + 3 + 1, none⟩) hab).trans x1, (hOB.cell (p := ⟨ab, k + 3 + 2, none⟩) hab).trans x2⟩
    have hat := arr_at ab k cap
    have hab2 : ab < (box2 wr).heap.size := by have := hOB.size; omega
    have habr := hab
    have HO0' : Hid (callP M i x = (if (((M.t i).sk.drop (q + 1))[0]?.getD nilV).T = 5 ∧ ((M.kk i).t i).fr.length < 8 then ok (enterP (M.kk i) i (((M.t i).sk.drop (q + 1))[0]?.getD nilV).N [(((M.t i).sk.drop (q + 1))[1]?.getD nilV)] q true) noEv else ok (pushP (cutP (M.kk i) i q) i [boolV false, str (if (((M.t i).sk.drop (q + 1))[0]?.getD nilV).T = 5 then mDepth else mCall)]) noEv)) := by
      show _ = _
      rw [HO0.out]
      have e1 : (({ M with fuel := M.fuel - 1 } : Mc).t i).sk.length - x - 1 = q := by show (M.t i).sk.length - x - 1 = q; rw [HH.out.2.2.2.2.1]; omega
      have e2 : ((({ M with fuel := M.fuel - 1 } : Mc).t i).sk[q]?.getD nilV) = ⟨6, fN, fS⟩ := HFN.out.symm
      unfold callB
      simp only
      rw [e1, e2, HBN.out]
      rfl
    rw [HKT.out.2.2, HH.out.2.2.2.1] at HO0'
    have H0 : Hid ((((M.t i).sk.drop (q + 1))[0]?.getD nilV).T ≠ 5) := h0
    clear h0
    obtain ⟨v0, hv0⟩ : ∃ v, v = (((M.t i).sk.drop (q + 1))[0]?.getD nilV) := ⟨_, rfl⟩
    obtain ⟨v1, hv1⟩ : ∃ v, v = (((M.t i).sk.drop (q + 1))[1]?.getD nilV) := ⟨_, rfl⟩
    rw [← hv0] at A0r va0 HO0' H0
    rw [← hv1] at A1r va1 HO0'
    clear hv0 hv1
    obtain ⟨T0, N0, S0⟩ := v0
    obtain ⟨T1, N1, S1⟩ := v1
    clear A0 A1
    obtain ⟨a00, a01, a02⟩ := A0r
    obtain ⟨a10, a11, a12⟩ := A1r
    simp only at a00 a01 a02 a10 a11 a12
    have g3 : w4.cell? ⟨a, i * 5 + 3, none⟩ = some (.slice (some ⟨fb, 0, none⟩) (n + 1) cp) := R4.rn.frs.trans HH.out.2.2.1
    have g3r : wr.cell? ⟨a, i * 5 + 3, none⟩ = some (.slice (some ⟨fb, 0, none⟩) (n + 1) cp) := (hbw.cell (p := ⟨a, i * 5 + 3, none⟩) hlt4).trans g3
    have haltr : a < wr.heap.size := by omega
    have hWr : W.heap.size < wr.heap.size := (R5.rn.box (b := W.heap.size) (o := zEv) (by simp)).2.2.1
    have HWR : Hid (W.heap.size < wr.heap.size) := hWr
    have HT7 : Hid (((M.kk i).t i).sk.length = q + 1 + x ∧ i < (M.kk i).th.length) := ⟨by rw [HKT.out.2.1]; exact HH.out.2.2.2.2.1, HKT.out.1⟩
    have hfN := HBN.out
    subst hfN
    have bT5 : (T0 == 5) = false := by simpa using H0.out
    have HO : Hid (callP M i x = ok (pushP (cutP (M.kk i) i q) i [⟨1, 0, []⟩, ⟨3, 0, [99, 97, 108, 108]⟩]) noEv) := by rw [HO0'.out]; rw [if_neg (fun h => H0.out h.1), if_neg H0.out]; rfl
    have R8 := (R5.alloc (vBox 1 0 []) rfl).alloc (vBox 3 0 [99, 97, 108, 108]) (n := wr.heap.size + 1) (by simp)
    clear R6 hv4 va0 va1 vargs hA hOB HR HAV HH HFN HKT HKA HK0 HO0 HKL hbw HO0' g3 R4
    clear hsl hsa hk0 hal s1w hlt4 hlsz hpc9 hna hsbf
    clear R5
    go_upto_region 62 with fail
    generalize (wr.alloc (.cells #[.int .i64 1, .int .u64 0, .string ⟨#[]⟩] 33)).alloc (.cells #[.int .i64 3, .int .u64 0, .string ⟨#[99, 97, 108, 108]⟩] 33) = w8 at *
    obtain ⟨own8, hv8, _⟩ := R8.vm
    obtain ⟨ad8, scp8, t1, t2, t3, _⟩ := hv8.sk HT7.out.2
    rw [HT7.out.1] at t1 t2
    have R9 := R8.cutSk HT7.out.2 t1 q (by rw [HT7.out.1]; omega)
    have hq8 : q ≤ scp8 := by omega
    have halt8 := hv8.alt
    clear hv8 R8
    go_upto_region 63 with fail
    clear t1 t3
    generalize w8.setCell ⟨a, i * 5 + 2, none⟩ (.slice ad8 q scp8) = w9 at *
    obtain ⟨z0, z1, z2, zz⟩ := R9.val (b := wr.heap.size) (T := 1) (N := 0) (S := []) (by simp)
    obtain ⟨y0, y1, y2, yy⟩ := R9.val (b := wr.heap.size + 1) (T := 3) (N := 0) (S := [99, 97, 108, 108]) (by simp)
    have HPU := R9.push2 (by show i < (cutP (M.kk i) i q).th.length; unfold cutP; rw [th_setT]; exact HT7.out.2) (by rw [cut_t HT7.out.2]; show (((M.kk i).t i).sk.take q).length ≤ 20000; rw [List.length_take]; have := HT7.out.1; omega) ⟨1, 0, []⟩ ⟨3, 0, [99, 97, 108, 108]⟩
    clear R9
    go_wp2_with fail
    refine HPU.mono ?_; rintro e wx ⟨rfl, R5⟩
    obtain ⟨e60, e61, e62, e63, e64, e65, e66, e67, e68, z6⟩ := cells9 (R5.rn.box (b := W.heap.size) (o := zEv) (by simp)).1
    have HF : Hid (∀ x0 x1 x2 x3 x4 x5 x6 x7 x8, Nx own W m a nb tp (pushP (cutP (M.kk i) i q) i [⟨1, 0, []⟩, ⟨3, 0, [99, 97, 108, 108]⟩]) (putE wx W.heap.size x0 x1 x2 x3 x4 x5 x6 x7 x8)) := fun x0 x1 x2 x3 x4 x5 x6 x7 x8 => R5.rn.putE (by simp) x0 x1 x2 x3 x4 x5 x6 x7 x8
    clear HPU R5
    go_wp2_with fail
    refine bodyPost_ret (v := .agg #[.int .i64 0, .int .i64 0, .int .i64 0, .int .i64 0, .int .u64 0, .string ⟨#[]⟩, .int .i64 0, .int .u64 0, .string ⟨#[]⟩]) (by first | (simp [results, go_sem]; done) | (simp [results, go_sem, e60, e61, e62, e63, e64, e65, e66, e67, e68]; done)) rfl ?_
    rw [HO.out]
    exact .inl ⟨rfl, rfl, HF.out _ _ _ _ _ _ _ _ _⟩
set_option maxRecDepth 16000 in
set_option maxHeartbeats 8000000 in
theorem call_p_deep {own : Nat → Nat} {W : World} {m a nb tp : Nat} {M : Mc} (HV : Vm own W m a nb tp M) {i : Nat} (hA : Alive M (some i)) (hi : i < M.th.length) {fb n cp : Nat} (hfr : W.cell? ⟨a, i * 5 + 3, none⟩ = some (.slice (some ⟨fb, 0, none⟩) (n + 1) cp)) (hln : (M.t i).fr.length = n + 1) (x q : Nat) (hx : x ≤ 3) (hq : (M.t i).sk.length = q + 1 + x) (hpc : (M.t i).f.pc < (M.p (M.t i).f.clo).nc) (hfu : ¬ M.fuel = 0) (h6 : ((M.t i).sk[q]?.getD nilV).T = 6) (hb : ((M.t i).sk[q]?.getD nilV).N = 6) (h0 : (((M.t i).sk.drop (q + 1))[0]?.getD nilV).T = 5) (h8 : n = 7) :
    Calls Tryz.prog 90 #[.pointer (some ⟨m, 0, none⟩), i64 i, .pointer (some ⟨a, i * 5, none⟩), .pointer (some ⟨fb, n * 5, none⟩), i64 x] W (OuEnd own W m a nb tp (callP M i x) evV) := by
  obtain ⟨r1, r2, r3, r4, r5, r6, r7⟩ := hA.runs hi
  have hpc9 : (M.t i).f.pc ≤ 65535 := by have := (hA.st.each _ (hA.prc r4)).2.2.2.2; omega
  have hsk := sk_bound hA hi
  have R1 : Rm own W m a nb tp i [(W.heap.size, zEv)] M (W.alloc zEv) := (Rm.start HV).alloc zEv rfl
  obtain ⟨own1, hv1, hN1⟩ := R1.vm
  have HB := burn_f hv1 hA.ou.fuel i
  have HR2 : Hid (∀ w1, Nf own1 (W.alloc zEv) m a nb tp i { M with fuel := M.fuel - 1 } w1 → Rm own W m a nb tp i [(W.heap.size, zEv)] { M with fuel := M.fuel - 1 } w1) := hN1 _
  have hbk : burnP M = ok { M with fuel := M.fuel - 1 } () := if_neg hfu
  rw [hbk] at HB
  have HO0 : Hid (callP M i x = callB { M with fuel := M.fuel - 1 } i x) := callP_eq x hfu
  obtain ⟨fn, hfn⟩ : ∃ fn, fn = (M.t i).sk[q]?.getD nilV := ⟨_, rfl⟩
  have HFN : Hid (fn = (M.t i).sk[q]?.getD nilV) := hfn
  rw [← hfn] at h6 hb
  have hK := hA.fuel (n := M.fuel - 1) (by omega)
  have HK0 : Hid (Alive (M.kk i) (some i)) := hK.setPc (i := i) hi ((M.t i).f.pc + 1) (by show _ ≤ (M.p (M.t i).f.clo).nc; omega)
  have HKL : Hid ((M.kk i).th.length = M.th.length) := by show (Mc.setT _ i _).th.length = _; rw [th_setT]
  clear hK
  clear hfn
  obtain ⟨fT, fN, fS⟩ := fn
  have hfa := Th.f_at (t := M.t i) r2
  rw [hln, Nat.add_sub_cancel] at hfa
  obtain ⟨pc, hpce⟩ : ∃ pc, pc = (M.t i).f.pc := ⟨_, rfl⟩
  have HH : Hid (Vm own W m a nb tp M ∧ Alive M (some i) ∧ W.cell? ⟨a, i * 5 + 3, none⟩ = some (.slice (some ⟨fb, 0, none⟩) (n + 1) cp) ∧ (M.t i).fr.length = n + 1 ∧ (M.t i).sk.length = q + 1 + x ∧ (M.t i).fr[n]? = some (M.t i).f ∧ pc = (M.t i).f.pc) := ⟨HV, hA, hfr, hln, hq, hfa, hpce⟩
  have HKT : Hid (i < (M.kk i).th.length ∧ ((M.kk i).t i).sk = (M.t i).sk ∧ ((M.kk i).t i).fr.length = (M.t i).fr.length) := by
    have e1 : (M.kk i).t i = (M.t i).setF { (M.t i).f with pc := (M.t i).f.pc + 1 } := t_setT hi _
    refine ⟨by show i < (Mc.setT _ i _).th.length; rw [th_setT]; exact hi, by rw [e1]; rfl, by rw [e1]; exact List.length_set⟩
  rw [← hpce] at hpc9
  clear HV hv1 hN1 R1 hbk hfu r1 r2 r3 r4 r5 r6 r7 hpc hA hfr hln hfa hpce
  rw [hq] at hsk
  clear hq
  simp only at h6 hb
  have H6 : Hid (fT = 6) := h6
  have HBN : Hid (fN = 6) := hb
  clear h6 hb
  have H8 : Hid (n = 7) := h8
  clear h8
  go_enter Tryz.func90, Tryz.ntmps90
  go_wp2_with fail
  refine HB.mono ?_; rintro e w1 hE
  rcases hE with ⟨_, rfl, hNf⟩ | ⟨h, _⟩ | ⟨h, _⟩
  rotate_left
  · cases h
  · cases h
  have R2 := HR2.out w1 hNf
  obtain ⟨own2, hv2, hN2⟩ := R2.vm
  obtain ⟨sb, scp, s1, s2, s3, s4, s5, sz, s6, s7, s8⟩ := hv2.skE (i := i) hi (k := q) (by show q < (M.t i).sk.length; rw [HH.out.2.2.2.2.1]; omega)
  rw [show (({ M with fuel := M.fuel - 1 } : Mc).t i).sk.length = q + 1 + x from HH.out.2.2.2.2.1] at s1 s2
  rw [show (({ M with fuel := M.fuel - 1 } : Mc).t i).sk[q]?.getD nilV = ⟨fT, fN, fS⟩ from HFN.out.symm] at s6 s7 s8
  simp only at s6 s7 s8
  have hlt2 := hv2.alt
  have f0 : w1.cell? ⟨a, i * 5 + 3, none⟩ = some (.slice (some ⟨fb, 0, none⟩) (n + 1) cp) := R2.rn.frs.trans HH.out.2.2.1
  have hna : ¬ a = fb := (hv2.fna hi f0).1
  have hsbf : ¬ sb = fb := by have := (hv2.fna hi f0).2.2.1; rintro rfl; omega
  obtain ⟨m1, hfb2, m2, fz, m3, f3, m4, m5, m6, f8⟩ := hv2.frame (i := i) hi f0 HH.out.2.2.2.2.2.1
  clear m1 m2 m3 m4 m5 m6
  have R3 := hN2 _ _ (f8 1 (i64 ((M.t i).f.pc + 1)) { (M.t i).f with pc := (M.t i).f.pc + 1 } (by omega) rfl)
  rw [kk_set HH.out.2.2.2.1, ← HH.out.2.2.2.2.2.2] at R3
  have R4 := R3.alloc (vBox fT fN fS) (n := w1.heap.size) (by simp only [size_set])
  rw [← HH.out.2.2.2.2.2.2] at f3
  have fz1 := fz (n * 5 + 1)
  clear fz f8 hN2 hv2 HR2 HB hNf R2 R3 s4 s5 sz
  go_upto_region 7 with fail
  rw [Nat.add_sub_cancel_left]
  have eW : (w1.setCell ⟨fb, n * 5 + 1, none⟩ (.int .i64 ((pc : Int) + 1))).alloc (.cells #[.int .i64 fT, .int .u64 (fN : Int), .string ⟨fS.toArray⟩] 33) = (w1.setCell ⟨fb, n * 5 + 1, none⟩ (i64 (pc + 1))).alloc (vBox fT fN fS) := by rw [show ((pc : Int) + 1) = ((pc + 1 : Nat) : Int) by omega]
  rw [eW]
  have HW4 : Hid (w1.heap.size < ((w1.setCell ⟨fb, n * 5 + 1, none⟩ (i64 (pc + 1))).alloc (vBox fT fN fS)).heap.size) := by show _ < _; simp
  have s1w : ((w1.setCell ⟨fb, n * 5 + 1, none⟩ (i64 (pc + 1))).alloc (vBox fT fN fS)).cell? ⟨a, i * 5 + 2, none⟩ = some (.slice (some ⟨sb, 0, none⟩) (q + 1 + x) scp) := ((below_one (w1.setCell ⟨fb, n * 5 + 1, none⟩ (i64 (pc + 1))) (vBox fT fN fS)).cell (p := ⟨a, i * 5 + 2, none⟩) (by simp only [size_set]; exact hlt2)).trans ((World.cell?_of_block (a := ⟨a, i * 5 + 2, none⟩) (Below.heap_setCell _ _ _ _ hna)).trans s1)
  clear eW s1 s6 s7 s8 f0 f3 fz1 hfb2 s3
  generalize (w1.setCell ⟨fb, n * 5 + 1, none⟩ (i64 (pc + 1))).alloc (vBox fT fN fS) = w4 at *
  obtain ⟨b0, b1, b2, bz⟩ := R4.val (b := w1.heap.size) (T := fT) (N := fN) (S := fS) (by simp)
  obtain ⟨own4, hv4, hN4, hX4⟩ := R4.vmX
  obtain ⟨k0, ek0, hk0, hal, hAV, hsa⟩ := hv4.args HKT.out.1 (q := q) (x := x) (by rw [HKT.out.2.1]; exact HH.out.2.2.2.2.1) s1w
  rw [HKT.out.2.1] at hal hAV
  rw [ek0]
  have HAV : Hid (AV w4.heap.size w4 (.slice (some ⟨sb, k0, none⟩) x x) ((M.t i).sk.drop (q + 1))) := hAV
  have hsl : sb < w4.heap.size := by obtain ⟨_, _, _, h1, h2, _⟩ := hAV; cases h1; exact h2
  clear hAV ek0
  have h6 := H6.out
  subst h6
  have hlt4 := hv4.alt
  have HKA : Hid (Alive (M.kk i) (some i)) := HK0.out
  clear hN4 hX4
  go_wp2_with fail
  go_loopw [14] (fun av wr => ∃ (l : List V) (ab k cap : Nat), av = .slice (some ⟨ab, k, none⟩) l.length cap ∧ l.length ≤ 3 ∧ Hid (AV w4.heap.size wr av l ∧ Below w4.heap.size w4 wr ∧ (∀ j : Nat, l[j]?.getD nilV = ((M.t i).sk.drop (q + 1))[j]?.getD nilV) ∧ ab ≠ a ∧ (ab = sb ∨ w4.heap.size ≤ ab) ∧ (∀ j : Nat, k + l.length * 3 ≤ (q + 1 + x) * 3 ∨ w4.heap.size ≤ ab))) (fun av _ => 10 - lenV av)
  case atStart => exact ⟨(M.t i).sk.drop (q + 1), sb, k0, x, by rw [hal], by omega, HAV.out, Below.refl _ _, fun _ => rfl, hsa, .inl rfl, fun _ => .inl (by rw [hal]; exact hk0)⟩
  case round =>
    obtain ⟨l, ab, k, cap, rfl, hl, HR⟩ := hrel
    by_cases hlt : l.length < 3
    · obtain ⟨av', w', happ, hav', ⟨b', cap', rfl, hge⟩, hbel⟩ := HR.out.1.grow HR.out.2.1.size (by omega) 53
      have dl : decide ((l.length : Int) < (3 : Int)) = true := decide_eq_true (by omega)
      have HREL : Hid (AV w4.heap.size w' (.slice (some ⟨b', 0, none⟩) (l.length + 1) cap') (l ++ [nilV]) ∧ Below w4.heap.size w4 w' ∧ (∀ j : Nat, (l ++ [nilV])[j]?.getD nilV = ((M.t i).sk.drop (q + 1))[j]?.getD nilV) ∧ b' ≠ a ∧ (b' = sb ∨ w4.heap.size ≤ b') ∧ (∀ j : Nat, 0 + (l ++ [nilV]).length * 3 ≤ (q + 1 + x) * 3 ∨ w4.heap.size ≤ b')) := by
        obtain ⟨_, h2, h3, h4, h5, h6⟩ := HR.out
        refine ⟨hav', h2.trans hbel, ?_, by omega, .inr hge, fun _ => .inr hge⟩
        intro j
        rw [← h3 j]
        by_cases cj : j < l.length
        · rw [List.getElem?_append_left cj]
        · by_cases ce : j = l.length
          · subst ce
            rw [List.getElem?_append_right (Nat.le_refl _), Nat.sub_self, List.getElem?_eq_none (Nat.le_refl _)]
            rfl
          · rw [List.getElem?_eq_none (by simp; omega), List.getElem?_eq_none (by omega)]
      have hll : (l ++ [nilV]).length = l.length + 1 := by simp
      have HLL : Hid ((l ++ [nilV]).length = l.length + 1) := hll
      clear hav' hbel hll HAV HR R4 hv4 HH HFN HKT HKA HK0 HO0
      go_wp2_with (at_builtin; refine wpList_append_eq rfl _ _ 53 rfl _ _ _ _ rfl rfl happ ?_)
      go_roundw
      case rel => exact ⟨l ++ [nilV], b', 0, cap', by rw [HLL.out], by rw [HLL.out]; omega, HREL⟩
      case measure => simp [lenV]; omega
    have hl3 : l.length = 3 := by omega
    have dl : decide ((l.length : Int) < (3 : Int)) = false := decide_eq_false (by omega)
    have hbw := HR.out.2.1
    have hlsz := hbw.size
    have b0 := (hbw.cell (p := ⟨w1.heap.size, 0, none⟩) HW4.out).trans b0
    have b1 := (hbw.cell (p := ⟨w1.heap.size, 1, none⟩) HW4.out).trans b1
    have b2 := (hbw.cell (p := ⟨w1.heap.size, 2, none⟩) HW4.out).trans b2
    have hw1r : w1.heap.size < wr.heap.size := Nat.lt_of_lt_of_le HW4.out hlsz
    have R5 := R4.below hbw
    have R6 := (R5.alloc (vBox 0 0 []) rfl).alloc (vBox 0 0 []) (n := wr.heap.size + 1) (by simp)
    obtain ⟨A0r, hab⟩ := HR.out.1.arg (j := 0) (by omega)
    obtain ⟨A1r, _⟩ := HR.out.1.arg (j := 1) (by omega)
    rw [HR.out.2.2.1 0, Nat.zero_mul, Nat.add_zero] at A0r
    rw [HR.out.2.2.1 1, Nat.one_mul] at A1r
    have hA := HH.out.2.1
    have vargs : ∀ v ∈ (M.t i).sk.drop (q + 1), okV M v := fun v hv => hA.skV hi v (List.mem_of_mem_drop hv)
    have va0 : okV (M.kk i) (((M.t i).sk.drop (q + 1))[0]?.getD nilV) := (arg_okV vargs 0).mono (Nat.le_refl _) (Nat.le_refl _) (by rw [HKL.out]; exact Nat.le_refl _)
    have va1 : okV (M.kk i) (((M.t i).sk.drop (q + 1))[1]?.getD nilV) := (arg_okV vargs 1).mono (Nat.le_refl _) (Nat.le_refl _) (by rw [HKL.out]; exact Nat.le_refl _)
    have hOB : Below wr.heap.size wr (box2 wr) := below_two (below_one _ _) (below_one _ _)
    have A0 : Arg (box2 wr) ab k (((M.t i).sk.drop (q + 1))[0]?.getD nilV) := by
      obtain ⟨x0, x1, x2⟩ := A0r
      exact ⟨(hOB.cell (p := ⟨ab, k, none⟩) hab).trans x0, (hOB.cell (p := ⟨ab, k + 1, none⟩) hab).trans x1, (hOB.cell (p := ⟨ab, k + 2, none⟩) hab).trans x2⟩
    have A1 : Arg (box2 wr) ab (k + 3) (((M.t i).sk.drop (q + 1))[1]?.getD nilV) := by
      obtain ⟨x0, x1, x2⟩ := A1r
      exact ⟨(hOB.cell (p := ⟨ab, k + 3, none⟩) hab).trans x0, (hOB.cell (p := ⟨ab, k + 3 + 1, none⟩) hab).trans x1, (hOB.cell (p := ⟨ab, k + 3 + 2, none⟩) hab).trans x2⟩
    have hat := arr_at ab k cap
    have hab2 : ab < (box2 wr).heap.size := by have := hOB.size; omega
    have habr := hab
    have HO0' : Hid (callP M i x = (if (((M.t i).sk.drop (q + 1))[0]?.getD nilV).T = 5 ∧ ((M.kk i).t i).fr.length < 8 then ok (enterP (M.kk i) i (((M.t i).sk.drop (q + 1))[0]?.getD nilV).N [(((M.t i).sk.drop (q + 1))[1]?.getD nilV)] q true) noEv else ok (pushP (cutP (M.kk i) i q) i [boolV false, str (if (((M.t i).sk.drop (q + 1))[0]?.getD nilV).T = 5 then mDepth else mCall)]) noEv)) := by
      show _ = _
      rw [HO0.out]
      have e1 : (({ M with fuel := M.fuel - 1 } : Mc).t i).sk.length - x - 1 = q := by show (M.t i).sk.length - x - 1 = q; rw [HH.out.2.2.2.2.1]; omega
      have e2 : ((({ M with fuel := M.fuel - 1 } : Mc).t i).sk[q]?.getD nilV) = ⟨6, fN, fS⟩ := HFN.out.symm
      unfold callB
      simp only
      rw [e1, e2, HBN.out]
      rfl
    rw [HKT.out.2.2, HH.out.2.2.2.1] at HO0'
    have H0 : Hid ((((M.t i).sk.drop (q + 1))[0]?.getD nilV).T = 5) := h0
    clear h0
    obtain ⟨v0, hv0⟩ : ∃ v, v = (((M.t i).sk.drop (q + 1))[0]?.getD nilV) := ⟨_, rfl⟩
    obtain ⟨v1, hv1⟩ : ∃ v, v = (((M.t i).sk.drop (q + 1))[1]?.getD nilV) := ⟨_, rfl⟩
    rw [← hv0] at A0r va0 HO0' H0
    rw [← hv1] at A1r va1 HO0'
    clear hv0 hv1
    obtain ⟨T0, N0, S0⟩ := v0
    obtain ⟨T1, N1, S1⟩ := v1
    clear A0 A1
    obtain ⟨a00, a01, a02⟩ := A0r
    obtain ⟨a10, a11, a12⟩ := A1r
    simp only at a00 a01 a02 a10 a11 a12
    have g3 : w4.cell? ⟨a, i * 5 + 3, none⟩ = some (.slice (some ⟨fb, 0, none⟩) (n + 1) cp) := R4.rn.frs.trans HH.out.2.2.1
    have g3r : wr.cell? ⟨a, i * 5 + 3, none⟩ = some (.slice (some ⟨fb, 0, none⟩) (n + 1) cp) := (hbw.cell (p := ⟨a, i * 5 + 3, none⟩) hlt4).trans g3
    have haltr : a < wr.heap.size := by omega
    have hWr : W.heap.size < wr.heap.size := (R5.rn.box (b := W.heap.size) (o := zEv) (by simp)).2.2.1
    have HWR : Hid (W.heap.size < wr.heap.size) := hWr
    have HT7 : Hid (((M.kk i).t i).sk.length = q + 1 + x ∧ i < (M.kk i).th.length) := ⟨by rw [HKT.out.2.1]; exact HH.out.2.2.2.2.1, HKT.out.1⟩
    have hfN := HBN.out
    subst hfN
    have t5 : T0 = 5 := H0.out
    have h8 := H8.out
    subst t5 h8
    have HO : Hid (callP M i x = ok (pushP (cutP (M.kk i) i q) i [⟨1, 0, []⟩, ⟨3, 0, [100, 101, 112, 116, 104]⟩]) noEv) := by rw [HO0'.out]; rw [if_neg (fun h => by have := h.2; have := H8.out; omega), if_pos H0.out]; rfl
    have R8 := (R5.alloc (vBox 1 0 []) rfl).alloc (vBox 3 0 [100, 101, 112, 116, 104]) (n := wr.heap.size + 1) (by simp)
    clear R6 hv4 va0 va1 vargs hA hOB HR HAV HH HFN HKT HKA HK0 HO0 HKL hbw HO0' g3 R4
    clear hsl hsa hk0 hal s1w hlt4 hlsz hpc9 hna hsbf
    clear R5
    go_upto_region 62 with fail
    generalize (wr.alloc (.cells #[.int .i64 1, .int .u64 0, .string ⟨#[]⟩] 33)).alloc (.cells #[.int .i64 3, .int .u64 0, .string ⟨#[100, 101, 112, 116, 104]⟩] 33) = w8 at *
    obtain ⟨own8, hv8, _⟩ := R8.vm
    obtain ⟨ad8, scp8, t1, t2, t3, _⟩ := hv8.sk HT7.out.2
    rw [HT7.out.1] at t1 t2
    have R9 := R8.cutSk HT7.out.2 t1 q (by rw [HT7.out.1]; omega)
    have hq8 : q ≤ scp8 := by omega
    have halt8 := hv8.alt
    clear hv8 R8
    go_upto_region 63 with fail
    clear t1 t3
    generalize w8.setCell ⟨a, i * 5 + 2, none⟩ (.slice ad8 q scp8) = w9 at *
    obtain ⟨z0, z1, z2, zz⟩ := R9.val (b := wr.heap.size) (T := 1) (N := 0) (S := []) (by simp)
    obtain ⟨y0, y1, y2, yy⟩ := R9.val (b := wr.heap.size + 1) (T := 3) (N := 0) (S := [100, 101, 112, 116, 104]) (by simp)
    have HPU := R9.push2 (by show i < (cutP (M.kk i) i q).th.length; unfold cutP; rw [th_setT]; exact HT7.out.2) (by rw [cut_t HT7.out.2]; show (((M.kk i).t i).sk.take q).length ≤ 20000; rw [List.length_take]; have := HT7.out.1; omega) ⟨1, 0, []⟩ ⟨3, 0, [100, 101, 112, 116, 104]⟩
    clear R9
    go_wp2_with fail
    refine HPU.mono ?_; rintro e wx ⟨rfl, R5⟩
    obtain ⟨e60, e61, e62, e63, e64, e65, e66, e67, e68, z6⟩ := cells9 (R5.rn.box (b := W.heap.size) (o := zEv) (by simp)).1
    have HF : Hid (∀ x0 x1 x2 x3 x4 x5 x6 x7 x8, Nx own W m a nb tp (pushP (cutP (M.kk i) i q) i [⟨1, 0, []⟩, ⟨3, 0, [100, 101, 112, 116, 104]⟩]) (putE wx W.heap.size x0 x1 x2 x3 x4 x5 x6 x7 x8)) := fun x0 x1 x2 x3 x4 x5 x6 x7 x8 => R5.rn.putE (by simp) x0 x1 x2 x3 x4 x5 x6 x7 x8
    clear HPU R5
    go_wp2_with fail
    refine bodyPost_ret (v := .agg #[.int .i64 0, .int .i64 0, .int .i64 0, .int .i64 0, .int .u64 0, .string ⟨#[]⟩, .int .i64 0, .int .u64 0, .string ⟨#[]⟩]) (by first | (simp [results, go_sem]; done) | (simp [results, go_sem, e60, e61, e62, e63, e64, e65, e66, e67, e68]; done)) rfl ?_
    rw [HO.out]
    exact .inl ⟨rfl, rfl, HF.out _ _ _ _ _ _ _ _ _⟩
set_option maxRecDepth 16000 in
set_option maxHeartbeats 8000000 in
theorem call_p_ok {own : Nat → Nat} {W : World} {m a nb tp : Nat} {M : Mc} (HV : Vm own W m a nb tp M) {i : Nat} (hA : Alive M (some i)) (hi : i < M.th.length) {fb n cp : Nat} (hfr : W.cell? ⟨a, i * 5 + 3, none⟩ = some (.slice (some ⟨fb, 0, none⟩) (n + 1) cp)) (hln : (M.t i).fr.length = n + 1) (x q : Nat) (hx : x ≤ 3) (hq : (M.t i).sk.length = q + 1 + x) (hpc : (M.t i).f.pc < (M.p (M.t i).f.clo).nc) (hfu : ¬ M.fuel = 0) (h6 : ((M.t i).sk[q]?.getD nilV).T = 6) (hb : ((M.t i).sk[q]?.getD nilV).N = 6) (h0 : (((M.t i).sk.drop (q + 1))[0]?.getD nilV).T = 5) (h8 : n < 7) :
    Calls Tryz.prog 90 #[.pointer (some ⟨m, 0, none⟩), i64 i, .pointer (some ⟨a, i * 5, none⟩), .pointer (some ⟨fb, n * 5, none⟩), i64 x] W (OuEnd own W m a nb tp (callP M i x) evV) := by
  obtain ⟨r1, r2, r3, r4, r5, r6, r7⟩ := hA.runs hi
  have hpc9 : (M.t i).f.pc ≤ 65535 := by have := (hA.st.each _ (hA.prc r4)).2.2.2.2; omega
  have hsk := sk_bound hA hi
  have R1 : Rm own W m a nb tp i [(W.heap.size, zEv)] M (W.alloc zEv) := (Rm.start HV).alloc zEv rfl
  obtain ⟨own1, hv1, hN1⟩ := R1.vm
  have HB := burn_f hv1 hA.ou.fuel i
  have HR2 : Hid (∀ w1, Nf own1 (W.alloc zEv) m a nb tp i { M with fuel := M.fuel - 1 } w1 → Rm own W m a nb tp i [(W.heap.size, zEv)] { M with fuel := M.fuel - 1 } w1) := hN1 _
  have hbk : burnP M = ok { M with fuel := M.fuel - 1 } () := if_neg hfu
  rw [hbk] at HB
  have HO0 : Hid (callP M i x = callB { M with fuel := M.fuel - 1 } i x) := callP_eq x hfu
  obtain ⟨fn, hfn⟩ : ∃ fn, fn = (M.t i).sk[q]?.getD nilV := ⟨_, rfl⟩
  have HFN : Hid (fn = (M.t i).sk[q]?.getD nilV) := hfn
  rw [← hfn] at h6 hb
  have hK := hA.fuel (n := M.fuel - 1) (by omega)
  have HK0 : Hid (Alive (M.kk i) (some i)) := hK.setPc (i := i) hi ((M.t i).f.pc + 1) (by show _ ≤ (M.p (M.t i).f.clo).nc; omega)
  have HKL : Hid ((M.kk i).th.length = M.th.length) := by show (Mc.setT _ i _).th.length = _; rw [th_setT]
  clear hK
  clear hfn
  obtain ⟨fT, fN, fS⟩ := fn
  have hfa := Th.f_at (t := M.t i) r2
  rw [hln, Nat.add_sub_cancel] at hfa
  obtain ⟨pc, hpce⟩ : ∃ pc, pc = (M.t i).f.pc := ⟨_, rfl⟩
  have HH : Hid (Vm own W m a nb tp M ∧ Alive M (some i) ∧ W.cell? ⟨a, i * 5 + 3, none⟩ = some (.slice (some ⟨fb, 0, none⟩) (n + 1) cp) ∧ (M.t i).fr.length = n + 1 ∧ (M.t i).sk.length = q + 1 + x ∧ (M.t i).fr[n]? = some (M.t i).f ∧ pc = (M.t i).f.pc) := ⟨HV, hA, hfr, hln, hq, hfa, hpce⟩
  have HKT : Hid (i < (M.kk i).th.length ∧ ((M.kk i).t i).sk = (M.t i).sk ∧ ((M.kk i).t i).fr.length = (M.t i).fr.length) := by
    have e1 : (M.kk i).t i = (M.t i).setF { (M.t i).f with pc := (M.t i).f.pc + 1 } := t_setT hi _
    refine ⟨by show i < (Mc.setT _ i _).th.length; rw [th_setT]; exact hi, by rw [e1]; rfl, by rw [e1]; exact List.length_set⟩
  rw [← hpce] at hpc9
  clear HV hv1 hN1 R1 hbk hfu r1 r2 r3 r4 r5 r6 r7 hpc hA hfr hln hfa hpce
  rw [hq] at hsk
  clear hq
  simp only at h6 hb
  have H6 : Hid (fT = 6) := h6
  have HBN : Hid (fN = 6) := hb
  clear h6 hb
  have H8 : Hid (n < 7) := h8
  clear h8
  go_enter Tryz.func90, Tryz.ntmps90
  go_wp2_with fail
  refine HB.mono ?_; rintro e w1 hE
  rcases hE with ⟨_, rfl, hNf⟩ | ⟨h, _⟩ | ⟨h, _⟩
  rotate_left
  · cases h
  · cases h
  have R2 := HR2.out w1 hNf
  obtain ⟨own2, hv2, hN2⟩ := R2.vm
  obtain ⟨sb, scp, s1, s2, s3, s4, s5, sz, s6, s7, s8⟩ := hv2.skE (i := i) hi (k := q) (by show q < (M.t i).sk.length; rw [HH.out.2.2.2.2.1]; omega)
  rw [show (({ M with fuel := M.fuel - 1 } : Mc).t i).sk.length = q + 1 + x from HH.out.2.2.2.2.1] at s1 s2
  rw [show (({ M with fuel := M.fuel - 1 } : Mc).t i).sk[q]?.getD nilV = ⟨fT, fN, fS⟩ from HFN.out.symm] at s6 s7 s8
  simp only at s6 s7 s8
  have hlt2 := hv2.alt
  have f0 : w1.cell? ⟨a, i * 5 + 3, none⟩ = some (.slice (some ⟨fb, 0, none⟩) (n + 1) cp) := R2.rn.frs.trans HH.out.2.2.1
  have hna : ¬ a = fb := (hv2.fna hi f0).1
  have hsbf : ¬ sb = fb := by have := (hv2.fna hi f0).2.2.1; rintro rfl; omega
  obtain ⟨m1, hfb2, m2, fz, m3, f3, m4, m5, m6, f8⟩ := hv2.frame (i := i) hi f0 HH.out.2.2.2.2.2.1
  clear m1 m2 m3 m4 m5 m6
  have R3 := hN2 _ _ (f8 1 (i64 ((M.t i).f.pc + 1)) { (M.t i).f with pc := (M.t i).f.pc + 1 } (by omega) rfl)
  rw [kk_set HH.out.2.2.2.1, ← HH.out.2.2.2.2.2.2] at R3
  have R4 := R3.alloc (vBox fT fN fS) (n := w1.heap.size) (by simp only [size_set])
  rw [← HH.out.2.2.2.2.2.2] at f3
  have fz1 := fz (n * 5 + 1)
  clear fz f8 hN2 hv2 HR2 HB hNf R2 R3 s4 s5 sz
  go_upto_region 7 with fail
  rw [Nat.add_sub_cancel_left]
  have eW : (w1.setCell ⟨fb, n * 5 + 1, none⟩ (.int .i64 ((pc : Int) + 1))).alloc (.cells #[.int .i64 fT, .int .u64 (fN : Int), .string ⟨fS.toArray⟩] 33) = (w1.setCell ⟨fb, n * 5 + 1, none⟩ (i64 (pc + 1))).alloc (vBox fT fN fS) := by rw [show ((pc : Int) + 1) = ((pc + 1 : Nat) : Int) by omega]
  rw [eW]
  have HW4 : Hid (w1.heap.size < ((w1.setCell ⟨fb, n * 5 + 1, none⟩ (i64 (pc + 1))).alloc (vBox fT fN fS)).heap.size) := by show _ < _; simp
  have s1w : ((w1.setCell ⟨fb, n * 5 + 1, none⟩ (i64 (pc + 1))).alloc (vBox fT fN fS)).cell? ⟨a, i * 5 + 2, none⟩ = some (.slice (some ⟨sb, 0, none⟩) (q + 1 + x) scp) := ((below_one (w1.setCell ⟨fb, n * 5 + 1, none⟩ (i64 (pc + 1))) (vBox fT fN fS)).cell (p := ⟨a, i * 5 + 2, none⟩) (by simp only [size_set]; exact hlt2)).trans ((World.cell?_of_block (a := ⟨a, i * 5 + 2, none⟩) (Below.heap_setCell _ _ _ _ hna)).trans s1)
  clear eW s1 s6 s7 s8 f0 f3 fz1 hfb2 s3
  generalize (w1.setCell ⟨fb, n * 5 + 1, none⟩ (i64 (pc + 1))).alloc (vBox fT fN fS) = w4 at *
  obtain ⟨b0, b1, b2, bz⟩ := R4.val (b := w1.heap.size) (T := fT) (N := fN) (S := fS) (by simp)
  obtain ⟨own4, hv4, hN4, hX4⟩ := R4.vmX
  obtain ⟨k0, ek0, hk0, hal, hAV, hsa⟩ := hv4.args HKT.out.1 (q := q) (x := x) (by rw [HKT.out.2.1]; exact HH.out.2.2.2.2.1) s1w
  rw [HKT.out.2.1] at hal hAV
  rw [ek0]
  have HAV : Hid (AV w4.heap.size w4 (.slice (some ⟨sb, k0, none⟩) x x) ((M.t i).sk.drop (q + 1))) := hAV
  have hsl : sb < w4.heap.size := by obtain ⟨_, _, _, h1, h2, _⟩ := hAV; cases h1; exact h2
  clear hAV ek0
  have h6 := H6.out
  subst h6
  have hlt4 := hv4.alt
  have HKA : Hid (Alive (M.kk i) (some i)) := HK0.out
  clear hN4 hX4
  go_wp2_with fail
  go_loopw [14] (fun av wr => ∃ (l : List V) (ab k cap : Nat), av = .slice (some ⟨ab, k, none⟩) l.length cap ∧ l.length ≤ 3 ∧ Hid (AV w4.heap.size wr av l ∧ Below w4.heap.size w4 wr ∧ (∀ j : Nat, l[j]?.getD nilV = ((M.t i).sk.drop (q + 1))[j]?.getD nilV) ∧ ab ≠ a ∧ (ab = sb ∨ w4.heap.size ≤ ab) ∧ (∀ j : Nat, k + l.length * 3 ≤ (q + 1 + x) * 3 ∨ w4.heap.size ≤ ab))) (fun av _ => 10 - lenV av)
  case atStart => exact ⟨(M.t i).sk.drop (q + 1), sb, k0, x, by rw [hal], by omega, HAV.out, Below.refl _ _, fun _ => rfl, hsa, .inl rfl, fun _ => .inl (by rw [hal]; exact hk0)⟩
  case round =>
    obtain ⟨l, ab, k, cap, rfl, hl, HR⟩ := hrel
    by_cases hlt : l.length < 3
    · obtain ⟨av', w', happ, hav', ⟨b', cap', rfl, hge⟩, hbel⟩ := HR.out.1.grow HR.out.2.1.size (by omega) 53
      have dl : decide ((l.length : Int) < (3 : Int)) = true := decide_eq_true (by omega)
      have HREL : Hid (AV w4.heap.size w' (.slice (some ⟨b', 0, none⟩) (l.length + 1) cap') (l ++ [nilV]) ∧ Below w4.heap.size w4 w' ∧ (∀ j : Nat, (l ++ [nilV])[j]?.getD nilV = ((M.t i).sk.drop (q + 1))[j]?.getD nilV) ∧ b' ≠ a ∧ (b' = sb ∨ w4.heap.size ≤ b') ∧ (∀ j : Nat, 0 + (l ++ [nilV]).length * 3 ≤ (q + 1 + x) * 3 ∨ w4.heap.size ≤ b')) := by
        obtain ⟨_, h2, h3, h4, h5, h6⟩ := HR.out
        refine ⟨hav', h2.trans hbel, ?_, by omega, .inr hge, fun _ => .inr hge⟩
        intro j
        rw [← h3 j]
        by_cases cj : j < l.length
        · rw [List.getElem?_append_left cj]
        · by_cases ce : j = l.length
          · subst ce
            rw [List.getElem?_append_right (Nat.le_refl _), Nat.sub_self, List.getElem?_eq_none (Nat.le_refl _)]
            rfl
          · rw [List.getElem?_eq_none (by simp; omega), List.getElem?_eq_none (by omega)]
      have hll : (l ++ [nilV]).length = l.length + 1 := by simp
      have HLL : Hid ((l ++ [nilV]).length = l.length + 1) := hll
      clear hav' hbel hll HAV HR R4 hv4 HH HFN HKT HKA HK0 HO0
      go_wp2_with (at_builtin; refine wpList_append_eq rfl _ _ 53 rfl _ _ _ _ rfl rfl happ ?_)
      go_roundw
      case rel => exact ⟨l ++ [nilV], b', 0, cap', by rw [HLL.out], by rw [HLL.out]; omega, HREL⟩
      case measure => simp [lenV]; omega
    have hl3 : l.length = 3 := by omega
    have dl : decide ((l.length : Int) < (3 : Int)) = false := decide_eq_false (by omega)
    have hbw := HR.out.2.1
    have hlsz := hbw.size
    have b0 := (hbw.cell (p := ⟨w1.heap.size, 0, none⟩) HW4.out).trans b0
    have b1 := (hbw.cell (p := ⟨w1.heap.size, 1, none⟩) HW4.out).trans b1
    have b2 := (hbw.cell (p := ⟨w1.heap.size, 2, none⟩) HW4.out).trans b2
    have hw1r : w1.heap.size < wr.heap.size := Nat.lt_of_lt_of_le HW4.out hlsz
    have R5 := R4.below hbw
    have R6 := (R5.alloc (vBox 0 0 []) rfl).alloc (vBox 0 0 []) (n := wr.heap.size + 1) (by simp)
    obtain ⟨A0r, hab⟩ := HR.out.1.arg (j := 0) (by omega)
    obtain ⟨A1r, _⟩ := HR.out.1.arg (j := 1) (by omega)
    rw [HR.out.2.2.1 0, Nat.zero_mul, Nat.add_zero] at A0r
    rw [HR.out.2.2.1 1, Nat.one_mul] at A1r
    have hA := HH.out.2.1
    have vargs : ∀ v ∈ (M.t i).sk.drop (q + 1), okV M v := fun v hv => hA.skV hi v (List.mem_of_mem_drop hv)
    have va0 : okV (M.kk i) (((M.t i).sk.drop (q + 1))[0]?.getD nilV) := (arg_okV vargs 0).mono (Nat.le_refl _) (Nat.le_refl _) (by rw [HKL.out]; exact Nat.le_refl _)
    have va1 : okV (M.kk i) (((M.t i).sk.drop (q + 1))[1]?.getD nilV) := (arg_okV vargs 1).mono (Nat.le_refl _) (Nat.le_refl _) (by rw [HKL.out]; exact Nat.le_refl _)
    have hOB : Below wr.heap.size wr (box2 wr) := below_two (below_one _ _) (below_one _ _)
    have A0 : Arg (box2 wr) ab k (((M.t i).sk.drop (q + 1))[0]?.getD nilV) := by
      obtain ⟨x0, x1, x2⟩ := A0r
      exact ⟨(hOB.cell (p := ⟨ab, k, none⟩) hab).trans x0, (hOB.cell (p := ⟨ab, k + 1, none⟩) hab).trans x1, (hOB.cell (p := ⟨ab, k + 2, none⟩) hab).trans x2⟩
    have A1 : Arg (box2 wr) ab (k + 3) (((M.t i).sk.drop (q + 1))[1]?.getD nilV) := by
      obtain ⟨x0, x1, x2⟩ := A1r
      exact ⟨(hOB.cell (p := ⟨ab, k + 3, none⟩) hab).trans x0, (hOB.cell (p := ⟨ab, k + 3 + 1, none⟩) hab).trans x1, (hOB.cell (p := ⟨ab, k + 3 + 2, none⟩) hab).trans x2⟩
    have hat := arr_at ab k cap
    have hab2 : ab < (box2 wr).heap.size := by have := hOB.size; omega
    have habr := hab
    have HO0' : Hid (callP M i x = (if (((M.t i).sk.drop (q + 1))[0]?.getD nilV).T = 5 ∧ ((M.kk i).t i).fr.length < 8 then ok (enterP (M.kk i) i (((M.t i).sk.drop (q + 1))[0]?.getD nilV).N [(((M.t i).sk.drop (q + 1))[1]?.getD nilV)] q true) noEv else ok (pushP (cutP (M.kk i) i q) i [boolV false, str (if (((M.t i).sk.drop (q + 1))[0]?.getD nilV).T = 5 then mDepth else mCall)]) noEv)) := by
      show _ = _
      rw [HO0.out]
      have e1 : (({ M with fuel := M.fuel - 1 } : Mc).t i).sk.length - x - 1 = q := by show (M.t i).sk.length - x - 1 = q; rw [HH.out.2.2.2.2.1]; omega
      have e2 : ((({ M with fuel := M.fuel - 1 } : Mc).t i).sk[q]?.getD nilV) = ⟨6, fN, fS⟩ := HFN.out.symm
      unfold callB
      simp only
      rw [e1, e2, HBN.out]
      rfl
    rw [HKT.out.2.2, HH.out.2.2.2.1] at HO0'
    have H0 : Hid ((((M.t i).sk.drop (q + 1))[0]?.getD nilV).T = 5) := h0
    clear h0
    obtain ⟨v0, hv0⟩ : ∃ v, v = (((M.t i).sk.drop (q + 1))[0]?.getD nilV) := ⟨_, rfl⟩
    obtain ⟨v1, hv1⟩ : ∃ v, v = (((M.t i).sk.drop (q + 1))[1]?.getD nilV) := ⟨_, rfl⟩
    rw [← hv0] at A0r va0 HO0' H0
    rw [← hv1] at A1r va1 HO0'
    clear hv0 hv1
    obtain ⟨T0, N0, S0⟩ := v0
    obtain ⟨T1, N1, S1⟩ := v1
    clear A0 A1
    obtain ⟨a00, a01, a02⟩ := A0r
    obtain ⟨a10, a11, a12⟩ := A1r
    simp only at a00 a01 a02 a10 a11 a12
    have g3 : w4.cell? ⟨a, i * 5 + 3, none⟩ = some (.slice (some ⟨fb, 0, none⟩) (n + 1) cp) := R4.rn.frs.trans HH.out.2.2.1
    have g3r : wr.cell? ⟨a, i * 5 + 3, none⟩ = some (.slice (some ⟨fb, 0, none⟩) (n + 1) cp) := (hbw.cell (p := ⟨a, i * 5 + 3, none⟩) hlt4).trans g3
    have haltr : a < wr.heap.size := by omega
    have hWr : W.heap.size < wr.heap.size := (R5.rn.box (b := W.heap.size) (o := zEv) (by simp)).2.2.1
    have HWR : Hid (W.heap.size < wr.heap.size) := hWr
    have HT7 : Hid (((M.kk i).t i).sk.length = q + 1 + x ∧ i < (M.kk i).th.length) := ⟨by rw [HKT.out.2.1]; exact HH.out.2.2.2.2.1, HKT.out.1⟩
    have hfN := HBN.out
    subst hfN
    have t5 : T0 = 5 := H0.out
    have h8 := H8.out
    subst t5
    have HO : Hid (callP M i x = ok (enterP (M.kk i) i N0 [⟨T1, N1, S1⟩] q true) noEv) := by rw [HO0'.out, if_pos ⟨rfl, by omega⟩]; rfl
    have hfl : N0 < M.cs.length := va0.fun_lt rfl
    have hcl := hA.clo hfl
    have hpe := hA.st.each _ (hA.prc hfl)
    have h24 := hA.cl.cs24
    have h13 := hA.st.pr13
    have R6q := R6.below (below_drewN (Below.refl _ _) 1)
    obtain ⟨own6, hv6, hN6, hX6⟩ := R6q.vmX
    have hOBq : Below wr.heap.size wr ((box2 wr).drewN 1) := below_drewN hOB 1
    have hAV6 : AV ((box2 wr).drewN 1).heap.size ((box2 wr).drewN 1) (.slice (some ⟨ab, k + 3, none⟩) 1 1) [⟨T1, N1, S1⟩] := by
      refine ⟨ab, k + 3, 1, rfl, by have := hOBq.size; omega, ?_, .inl rfl⟩
      intro j u hu
      have hj : j < 3 := (List.getElem?_eq_some_iff.1 hu).1
      rcases (by omega : j = 0 ∨ j = 1 ∨ j = 2) with rfl | rfl | rfl
      · simp [valC] at hu; rw [← hu]; exact (hOBq.cell (p := ⟨ab, k + 3, none⟩) habr).trans a10
      · simp [valC] at hu; rw [← hu]; exact (hOBq.cell (p := ⟨ab, k + 3 + 1, none⟩) habr).trans a11
      · simp [valC] at hu; rw [← hu]; exact (hOBq.cell (p := ⟨ab, k + 3 + 2, none⟩) habr).trans a12
    have hEN := enter_any hv6 HT7.out.2 (c := N0) hfl hcl.1 hpe.1 hpe.2.2.1 (by show M.cs.length ≤ 100000; omega) (by show M.pr.length ≤ 100000; omega) (by rw [HT7.out.1]; omega) (by rw [HKT.out.2.2, HH.out.2.2.2.1]; omega) [⟨T1, N1, S1⟩] ab (k + 3) (by simp) hAV6 HR.out.2.2.2.1 (fun n' cp' h => by
      have h1 : ((box2 wr).drewN 1).cell? ⟨a, i * 5 + 2, none⟩ = some (.slice (some ⟨sb, 0, none⟩) (q + 1 + x) scp) := (hOBq.cell (p := ⟨a, i * 5 + 2, none⟩) haltr).trans ((hbw.cell (p := ⟨a, i * 5 + 2, none⟩) hlt4).trans s1w)
      rw [h1] at h
      injection h with h
      injection h with e1 e2 e3
      injection e1 with e1
      injection e1 with e1
      rcases HR.out.2.2.2.2.2 0 with h2 | h2
      · rw [hl3] at h2
        rw [← e2]
        show k + 3 + 1 * 3 ≤ _
        omega
      · omega) q (by omega) true
    have HX : Hid (∀ M2 w2, Nx own6 ((box2 wr).drewN 1) m a nb tp M2 w2 → Rn own W m a nb tp i (w2.cell? ⟨a, i * 5 + 3, none⟩) [(wr.heap.size + 1, vBox 0 0 []), (wr.heap.size, vBox 0 0 []), (w1.heap.size, vBox 6 6 fS), (W.heap.size, zEv)] M2 w2) := hX6
    have hw2 : IntKind.i64.wrap (N0 : Int) = (N0 : Int) := IntWalk.i64_in _ ⟨by omega, by omega⟩
    have hn8 : ((n + 1 : Nat) : Int) < 8 := by omega
    have hn8' : n + 1 < 8 := by omega
    clear R6 hv4 va0 va1 vargs hA hOB HR HAV HH HFN HKT HKA HK0 HO0 HKL hbw HO0' g3 R4
    clear hsl hsa hk0 hal s1w hlt4 hlsz hpc9 hna hsbf
    clear hv6 hN6 hX6 R6q hAV6 hOBq hcl hpe R5
    generalize enterP (M.kk i) i N0 [⟨T1, N1, S1⟩] q true = M5 at *
    go_wp2_with fail
    refine region_tail 12 (by kernel_rfl) (by kernel_rfl) ?_
    simp only [List.take_succ_cons, List.take_zero, List.drop_succ_cons, List.drop_zero]
    repeat (refine wpStill_step (fun K hK => ?_); go_simp; (try go_bits); refine hK _ ?_; clear hK K)
    refine wpStill_nil ?_
    go_wp2_with fail
    refine hEN.mono ?_; rintro e w5 ⟨rfl, hnx⟩
    have R5 := HX.out _ _ hnx
    obtain ⟨e60, e61, e62, e63, e64, e65, e66, e67, e68, z6⟩ := cells9 (R5.box (b := W.heap.size) (o := zEv) (by simp)).1
    have HF : Hid (∀ x0 x1 x2 x3 x4 x5 x6 x7 x8, Nx own W m a nb tp M5 (putE w5 W.heap.size x0 x1 x2 x3 x4 x5 x6 x7 x8)) := fun x0 x1 x2 x3 x4 x5 x6 x7 x8 => R5.putE (by simp) x0 x1 x2 x3 x4 x5 x6 x7 x8
    clear hEN hnx R5 HX
    go_wp2_with fail
    refine bodyPost_ret (v := .agg #[.int .i64 0, .int .i64 0, .int .i64 0, .int .i64 0, .int .u64 0, .string ⟨#[]⟩, .int .i64 0, .int .u64 0, .string ⟨#[]⟩]) (by first | (simp [results, go_sem]; done) | (simp [results, go_sem, e60, e61, e62, e63, e64, e65, e66, e67, e68]; done)) rfl ?_
    rw [HO.out]
    exact .inl ⟨rfl, rfl, HF.out _ _ _ _ _ _ _ _ _⟩
set_option maxRecDepth 16000 in
set_option maxHeartbeats 8000000 in
theorem call_r_not {own : Nat → Nat} {W : World} {m a nb tp : Nat} {M : Mc} (HV : Vm own W m a nb tp M) {i : Nat} (hA : Alive M (some i)) (hi : i < M.th.length) {fb n cp : Nat} (hfr : W.cell? ⟨a, i * 5 + 3, none⟩ = some (.slice (some ⟨fb, 0, none⟩) (n + 1) cp)) (hln : (M.t i).fr.length = n + 1) (x q : Nat) (hx : x ≤ 3) (hq : (M.t i).sk.length = q + 1 + x) (hpc : (M.t i).f.pc < (M.p (M.t i).f.clo).nc) (hfu : ¬ M.fuel = 0) (h6 : ((M.t i).sk[q]?.getD nilV).T = 6) (hb : ((M.t i).sk[q]?.getD nilV).N = 9) (h0 : (((M.t i).sk.drop (q + 1))[0]?.getD nilV).T ≠ 7) :
    Calls Tryz.prog 90 #[.pointer (some ⟨m, 0, none⟩), i64 i, .pointer (some ⟨a, i * 5, none⟩), .pointer (some ⟨fb, n * 5, none⟩), i64 x] W (OuEnd own W m a nb tp (callP M i x) evV) := by
  obtain ⟨r1, r2, r3, r4, r5, r6, r7⟩ := hA.runs hi
  have hpc9 : (M.t i).f.pc ≤ 65535 := by have := (hA.st.each _ (hA.prc r4)).2.2.2.2; omega
  have hsk := sk_bound hA hi
  have R1 : Rm own W m a nb tp i [(W.heap.size, zEv)] M (W.alloc zEv) := (Rm.start HV).alloc zEv rfl
  obtain ⟨own1, hv1, hN1⟩ := R1.vm
  have HB := burn_f hv1 hA.ou.fuel i
  have HR2 : Hid (∀ w1, Nf own1 (W.alloc zEv) m a nb tp i { M with fuel := M.fuel - 1 } w1 → Rm own W m a nb tp i [(W.heap.size, zEv)] { M with fuel := M.fuel - 1 } w1) := hN1 _
  have hbk : burnP M = ok { M with fuel := M.fuel - 1 } () := if_neg hfu
  rw [hbk] at HB
  have HO0 : Hid (callP M i x = callB { M with fuel := M.fuel - 1 } i x) := callP_eq x hfu
  obtain ⟨fn, hfn⟩ : ∃ fn, fn = (M.t i).sk[q]?.getD nilV := ⟨_, rfl⟩
  have HFN : Hid (fn = (M.t i).sk[q]?.getD nilV) := hfn
  rw [← hfn] at h6 hb
  have hK := hA.fuel (n := M.fuel - 1) (by omega)
  have HK0 : Hid (Alive (M.kk i) (some i)) := hK.setPc (i := i) hi ((M.t i).f.pc + 1) (by show _ ≤ (M.p (M.t i).f.clo).nc; omega)
  have HKL : Hid ((M.kk i).th.length = M.th.length) := by show (Mc.setT _ i _).th.length = _; rw [th_setT]
  clear hK
  clear hfn
  obtain ⟨fT, fN, fS⟩ := fn
  have hfa := Th.f_at (t := M.t i) r2
  rw [hln, Nat.add_sub_cancel] at hfa
  obtain ⟨pc, hpce⟩ : ∃ pc, pc = (M.t i).f.pc := ⟨_, rfl⟩
  have HH : Hid (Vm own W m a nb tp M ∧ Alive M (some i) ∧ W.cell? ⟨a, i * 5 + 3, none⟩ = some (.slice (some ⟨fb, 0, none⟩) (n + 1) cp) ∧ (M.t i).fr.length = n + 1 ∧ (M.t i).sk.length = q + 1 + x ∧ (M.t i).fr[n]? = some (M.t i).f ∧ pc = (M.t i).f.pc) := ⟨HV, hA, hfr, hln, hq, hfa, hpce⟩
  have HKT : Hid (i < (M.kk i).th.length ∧ ((M.kk i).t i).sk = (M.t i).sk ∧ ((M.kk i).t i).fr.length = (M.t i).fr.length) := by
    have e1 : (M.kk i).t i = (M.t i).setF { (M.t i).f with pc := (M.t i).f.pc + 1 } := t_setT hi _
    refine ⟨by show i < (Mc.setT _ i _).th.length; rw [th_setT]; exact hi, by rw [e1]; rfl, by rw [e1]; exact List.length_set⟩
  rw [← hpce] at hpc9
  clear HV hv1 hN1 R1 hbk hfu r1 r2 r3 r4 r5 r6 r7 hpc hA hfr hln hfa hpce
  rw [hq] at hsk
  clear hq
  simp only at h6 hb
  have H6 : Hid (fT = 6) := h6
  have HBN : Hid (fN = 9) := hb
  clear h6 hb
  go_enter Tryz.func90, Tryz.ntmps90
  go_wp2_with fail
  refine HB.mono ?_; rintro e w1 hE
  rcases hE with ⟨_, rfl, hNf⟩ | ⟨h, _⟩ | ⟨h, _⟩
  rotate_left
  · cases h
  · cases h
  have R2 := HR2.out w1 hNf
  obtain ⟨own2, hv2, hN2⟩ := R2.vm
  obtain ⟨sb, scp, s1, s2, s3, s4, s5, sz, s6, s7, s8⟩ := hv2.skE (i := i) hi (k := q) (by show q < (M.t i).sk.length; rw [HH.out.2.2.2.2.1]; omega)
  rw [show (({ M with fuel := M.fuel - 1 } : Mc).t i).sk.length = q + 1 + x from HH.out.2.2.2.2.1] at s1 s2
  rw [show (({ M with fuel := M.fuel - 1 } : Mc).t i).sk[q]?.getD nilV = ⟨fT, fN, fS⟩ from HFN.out.symm] at s6 s7 s8
  simp only at s6 s7 s8
  have hlt2 := hv2.alt
  have f0 : w1.cell? ⟨a, i * 5 + 3, none⟩ = some (.slice (some ⟨fb, 0, none⟩) (n + 1) cp) := R2.rn.frs.trans HH.out.2.2.1
  have hna : ¬ a = fb := (hv2.fna hi f0).1
  have hsbf : ¬ sb = fb := by have := (hv2.fna hi f0).2.2.1; rintro rfl; omega
  obtain ⟨m1, hfb2, m2, fz, m3, f3, m4, m5, m6, f8⟩ := hv2.frame (i := i) hi f0 HH.out.2.2.2.2.2.1
  clear m1 m2 m3 m4 m5 m6
  have R3 := hN2 _ _ (f8 1 (i64 ((M.t i).f.pc + 1)) { (M.t i).f with pc := (M.t i).f.pc + 1 } (by omega) rfl)
  rw [kk_set HH.out.2.2.2.1, ← HH.out.2.2.2.2.2.2] at R3
  have R4 := R3.alloc (vBox fT fN fS) (n := w1.heap.size) (by simp only [size_set])
  rw [← HH.out.2.2.2.2.2.2] at f3
  have fz1 := fz (n * 5 + 1)
  clear fz f8 hN2 hv2 HR2 HB hNf R2 R3 s4 s5 sz
  go_upto_region 7 with fail
  rw [Nat.add_sub_cancel_left]
  have eW : (w1.setCell ⟨fb, n * 5 + 1, none⟩ (.int .i64 ((pc : Int) + 1))).alloc (.cells #[.int .i64 fT, .int .u64 (fN : Int), .string ⟨fS.toArray⟩] 33) = (w1.setCell ⟨fb, n * 5 + 1, none⟩ (i64 (pc + 1))).alloc (vBox fT fN fS) := by rw [show ((pc : Int) + 1) = ((pc + 1 : Nat) : Int) by omega]
  rw [eW]
  have HW4 : Hid (w1.heap.size < ((w1.setCell ⟨fb, n * 5 + 1, none⟩ (i64 (pc + 1))).alloc (vBox fT fN fS)).heap.size) := by show _ < _; simp
  have s1w : ((w1.setCell ⟨fb, n * 5 + 1, none⟩ (i64 (pc + 1))).alloc (vBox fT fN fS)).cell? ⟨a, i * 5 + 2, none⟩ = some (.slice (some ⟨sb, 0, none⟩) (q + 1 + x) scp) := ((below_one (w1.setCell ⟨fb, n * 5 + 1, none⟩ (i64 (pc + 1))) (vBox fT fN fS)).cell (p := ⟨a, i * 5 + 2, none⟩) (by simp only [size_set]; exact hlt2)).trans ((World.cell?_of_block (a := ⟨a, i * 5 + 2, none⟩) (Below.heap_setCell _ _ _ _ hna)).trans s1)
  clear eW s1 s6 s7 s8 f0 f3 fz1 hfb2 s3
  generalize (w1.setCell ⟨fb, n * 5 + 1, none⟩ (i64 (pc + 1))).alloc (vBox fT fN fS) = w4 at *
  obtain ⟨b0, b1, b2, bz⟩ := R4.val (b := w1.heap.size) (T := fT) (N := fN) (S := fS) (by simp)
  obtain ⟨own4, hv4, hN4, hX4⟩ := R4.vmX
  obtain ⟨k0, ek0, hk0, hal, hAV, hsa⟩ := hv4.args HKT.out.1 (q := q) (x := x) (by rw [HKT.out.2.1]; exact HH.out.2.2.2.2.1) s1w
  rw [HKT.out.2.1] at hal hAV
  rw [ek0]
  have HAV : Hid (AV w4.heap.size w4 (.slice (some ⟨sb, k0, none⟩) x x) ((M.t i).sk.drop (q + 1))) := hAV
  have hsl : sb < w4.heap.size := by obtain ⟨_, _, _, h1, h2, _⟩ := hAV; cases h1; exact h2
  clear hAV ek0
  have h6 := H6.out
  subst h6
  have hlt4 := hv4.alt
  have HKA : Hid (Alive (M.kk i) (some i)) := HK0.out
  clear hN4 hX4
  go_wp2_with fail
  go_loopw [14] (fun av wr => ∃ (l : List V) (ab k cap : Nat), av = .slice (some ⟨ab, k, none⟩) l.length cap ∧ l.length ≤ 3 ∧ Hid (AV w4.heap.size wr av l ∧ Below w4.heap.size w4 wr ∧ (∀ j : Nat, l[j]?.getD nilV = ((M.t i).sk.drop (q + 1))[j]?.getD nilV) ∧ ab ≠ a ∧ (ab = sb ∨ w4.heap.size ≤ ab) ∧ (∀ j : Nat, k + l.length * 3 ≤ (q + 1 + x) * 3 ∨ w4.heap.size ≤ ab))) (fun av _ => 10 - lenV av)
  case atStart => exact ⟨(M.t i).sk.drop (q + 1), sb, k0, x, by rw [hal], by omega, HAV.out, Below.refl _ _, fun _ => rfl, hsa, .inl rfl, fun _ => .inl (by rw [hal]; exact hk0)⟩
  case round =>
    obtain ⟨l, ab, k, cap, rfl, hl, HR⟩ := hrel
    by_cases hlt : l.length < 3
    · obtain ⟨av', w', happ, hav', ⟨b', cap', rfl, hge⟩, hbel⟩ := HR.out.1.grow HR.out.2.1.size (by omega) 53
      have dl : decide ((l.length : Int) < (3 : Int)) = true := decide_eq_true (by omega)
      have HREL : Hid (AV w4.heap.size w' (.slice (some ⟨b', 0, none⟩) (l.length + 1) cap') (l ++ [nilV]) ∧ Below w4.heap.size w4 w' ∧ (∀ j : Nat, (l ++ [nilV])[j]?.getD nilV = ((M.t i).sk.drop (q + 1))[j]?.getD nilV) ∧ b' ≠ a ∧ (b' = sb ∨ w4.heap.size ≤ b') ∧ (∀ j : Nat, 0 + (l ++ [nilV]).length * 3 ≤ (q + 1 + x) * 3 ∨ w4.heap.size ≤ b')) := by
        obtain ⟨_, h2, h3, h4, h5, h6⟩ := HR.out
        refine ⟨hav', h2.trans hbel, ?_, by omega, .inr hge, fun _ => .inr hge⟩
        intro j
        rw [← h3 j]
        by_cases cj : j < l.length
        · rw [List.getElem?_append_left cj]
        · by_cases ce : j = l.length
          · subst ce
            rw [List.getElem?_append_right (Nat.le_refl _), Nat.sub_self, List.getElem?_eq_none (Nat.le_refl _)]
            rfl
          · rw [List.getElem?_eq_none (by simp; omega), List.getElem?_eq_none (by omega)]
      have hll : (l ++ [nilV]).length = l.length + 1 := by simp
      have HLL : Hid ((l ++ [nilV]).length = l.length + 1) := hll
      clear hav' hbel hll HAV HR R4 hv4 HH HFN HKT HKA HK0 HO0
      go_wp2_with (at_builtin; refine wpList_append_eq rfl _ _ 53 rfl _ _ _ _ rfl rfl happ ?_)
      go_roundw
      case rel => exact ⟨l ++ [nilV], b', 0, cap', by rw [HLL.out], by rw [HLL.out]; omega, HREL⟩
      case measure => simp [lenV]; omega
    have hl3 : l.length = 3 := by omega
    have dl : decide ((l.length : Int) < (3 : Int)) = false := decide_eq_false (by omega)
    have hbw := HR.out.2.1
    have hlsz := hbw.size
    have b0 := (hbw.cell (p := ⟨w1.heap.size, 0, none⟩) HW4.out).trans b0
    have b1 := (hbw.cell (p := ⟨w1.heap.size, 1, none⟩) HW4.out).trans b1
    have b2 := (hbw.cell (p := ⟨w1.heap.size, 2, none⟩) HW4.out).trans b2
    have hw1r : w1.heap.size < wr.heap.size := Nat.lt_of_lt_of_le HW4.out hlsz
    have R5 := R4.below hbw
    have R6 := (R5.alloc (vBox 0 0 []) rfl).alloc (vBox 0 0 []) (n := wr.heap.size + 1) (by simp)
    obtain ⟨A0r, hab⟩ := HR.out.1.arg (j := 0) (by omega)
    obtain ⟨A1r, _⟩ := HR.out.1.arg (j := 1) (by omega)
    rw [HR.out.2.2.1 0, Nat.zero_mul, Nat.add_zero] at A0r
    rw [HR.out.2.2.1 1, Nat.one_mul] at A1r
    have hA := HH.out.2.1
    have vargs : ∀ v ∈ (M.t i).sk.drop (q + 1), okV M v := fun v hv => hA.skV hi v (List.mem_of_mem_drop hv)
    have va0 : okV (M.kk i) (((M.t i).sk.drop (q + 1))[0]?.getD nilV) := (arg_okV vargs 0).mono (Nat.le_refl _) (Nat.le_refl _) (by rw [HKL.out]; exact Nat.le_refl _)
    have va1 : okV (M.kk i) (((M.t i).sk.drop (q + 1))[1]?.getD nilV) := (arg_okV vargs 1).mono (Nat.le_refl _) (Nat.le_refl _) (by rw [HKL.out]; exact Nat.le_refl _)
    have hOB : Below wr.heap.size wr (box2 wr) := below_two (below_one _ _) (below_one _ _)
    have A0 : Arg (box2 wr) ab k (((M.t i).sk.drop (q + 1))[0]?.getD nilV) := by
      obtain ⟨x0, x1, x2⟩ := A0r
      exact ⟨(hOB.cell (p := ⟨ab, k, none⟩) hab).trans x0, (hOB.cell (p := ⟨ab, k + 1, none⟩) hab).trans x1, (hOB.cell (p := ⟨ab, k + 2, none⟩) hab).trans x2⟩
    have A1 : Arg (box2 wr) ab (k + 3) (((M.t i).sk.drop (q + 1))[1]?.getD nilV) := by
      obtain ⟨x0, x1, x2⟩ := A1r
      exact ⟨(hOB.cell (p := ⟨ab, k + 3, none⟩) hab).trans x0, (hOB.cell (p := ⟨ab, k + 3 + 1, none⟩) hab).trans x1, (hOB.cell (p := ⟨ab, k + 3 + 2, none⟩) hab).trans x2⟩
    have hat := arr_at ab k cap
    have hab2 : ab < (box2 wr).heap.size := by have := hOB.size; omega
    have habr := hab
    have HO0' : Hid (callP M i x = (if (((M.t i).sk.drop (q + 1))[0]?.getD nilV).T ≠ 7 then thr (M.kk i) noEv (str mCo) else if ((M.kk i).t (((M.t i).sk.drop (q + 1))[0]?.getD nilV).N).st = 1 ∨ ((M.kk i).t (((M.t i).sk.drop (q + 1))[0]?.getD nilV).N).st = 2 then ok (cutP ((M.kk i).setT i { (M.kk i).t i with st := 3 }) i q) ⟨4, (((M.t i).sk.drop (q + 1))[0]?.getD nilV).N, 0, (((M.t i).sk.drop (q + 1))[1]?.getD nilV), nilV⟩ else ok (pushP (cutP (M.kk i) i q) i [boolV false, str (stName ((M.kk i).t (((M.t i).sk.drop (q + 1))[0]?.getD nilV).N).st)]) noEv)) := by
      show _ = _
      rw [HO0.out]
      have e1 : (({ M with fuel := M.fuel - 1 } : Mc).t i).sk.length - x - 1 = q := by show (M.t i).sk.length - x - 1 = q; rw [HH.out.2.2.2.2.1]; omega
      have e2 : ((({ M with fuel := M.fuel - 1 } : Mc).t i).sk[q]?.getD nilV) = ⟨6, fN, fS⟩ := HFN.out.symm
      unfold callB
      simp only
      rw [e1, e2, HBN.out]
      rfl
    have H0 : Hid ((((M.t i).sk.drop (q + 1))[0]?.getD nilV).T ≠ 7) := h0
    clear h0
    obtain ⟨v0, hv0⟩ : ∃ v, v = (((M.t i).sk.drop (q + 1))[0]?.getD nilV) := ⟨_, rfl⟩
    obtain ⟨v1, hv1⟩ : ∃ v, v = (((M.t i).sk.drop (q + 1))[1]?.getD nilV) := ⟨_, rfl⟩
    rw [← hv0] at A0r va0 HO0' H0
    rw [← hv1] at A1r va1 HO0'
    clear hv0 hv1
    obtain ⟨T0, N0, S0⟩ := v0
    obtain ⟨T1, N1, S1⟩ := v1
    clear A0 A1
    obtain ⟨a00, a01, a02⟩ := A0r
    obtain ⟨a10, a11, a12⟩ := A1r
    simp only at a00 a01 a02 a10 a11 a12
    have haltr : a < wr.heap.size := by omega
    have hWr : W.heap.size < wr.heap.size := (R5.rn.box (b := W.heap.size) (o := zEv) (by simp)).2.2.1
    have HWR : Hid (W.heap.size < wr.heap.size) := hWr
    have HT7 : Hid (((M.kk i).t i).sk.length = q + 1 + x ∧ i < (M.kk i).th.length) := ⟨by rw [HKT.out.2.1]; exact HH.out.2.2.2.2.1, HKT.out.1⟩
    have hfN := HBN.out
    subst hfN
    obtain ⟨own5, hv5, _⟩ := R5.vm
    obtain ⟨t9, t5⟩ := hv5.c9V
    obtain ⟨_, _, qm⟩ := hv5.cellM (Below.refl _ _)
    have haba : ab ≠ a := HR.out.2.2.2.1
    have bT7 : (T0 != 7) = true := by simpa using H0.out
    have HO : Hid (callP M i x = thr (M.kk i) noEv (str [99, 111])) := by rw [HO0'.out]; exact if_pos H0.out
    have HT := raise_end [99, 111] (box2 wr)
    have HSZ : Hid (∀ {b}, (box2 wr).heap.size ≤ b → W.heap.size ≤ b) := fun h => Nat.le_trans (R6.rn.choose_spec.2.2.1.size) h
    have R4' := R6
    clear R6 hv4 hv5 va0 va1 vargs hA hOB HR HAV HH HFN HKT HKA HK0 HO0 HKL hbw HO0' R4 R5
    clear hsl hsa hk0 hal s1w hlt4 hlsz hpc9 hna hsbf
    go_wp2_with fail
    refine HT.mono ?_; rintro e w5 ht
    obtain ⟨bb, rfl, ht2, ht3, ht4⟩ := ht
    have HE : Hid (OuEnd own W m a nb tp (thr (M.kk i) noEv (str [99, 111])) evV (thrE bb) w5) := .inr (.inl ⟨rfl, ⟨bb, rfl, HSZ.out ht2, ht3⟩, R4'.rn.nx.below ht4⟩)
    clear ht2 ht3 ht4 R4' HT
    go_wp2_with fail
    simp [bodyPost]
    rw [HO.out]
    exact HE.out
set_option maxRecDepth 16000 in
set_option maxHeartbeats 8000000 in
theorem call_y_not {own : Nat → Nat} {W : World} {m a nb tp : Nat} {M : Mc} (HV : Vm own W m a nb tp M) {i : Nat} (hA : Alive M (some i)) (hi : i < M.th.length) {fb n cp : Nat} (hfr : W.cell? ⟨a, i * 5 + 3, none⟩ = some (.slice (some ⟨fb, 0, none⟩) (n + 1) cp)) (hln : (M.t i).fr.length = n + 1) (x q : Nat) (hx : x ≤ 3) (hq : (M.t i).sk.length = q + 1 + x) (hpc : (M.t i).f.pc < (M.p (M.t i).f.clo).nc) (hfu : ¬ M.fuel = 0) (h6 : ((M.t i).sk[q]?.getD nilV).T = 6) (hb : ((M.t i).sk[q]?.getD nilV).N = 10) (h0 : i = 0) :
    Calls Tryz.prog 90 #[.pointer (some ⟨m, 0, none⟩), i64 i, .pointer (some ⟨a, i * 5, none⟩), .pointer (some ⟨fb, n * 5, none⟩), i64 x] W (OuEnd own W m a nb tp (callP M i x) evV) := by
  obtain ⟨r1, r2, r3, r4, r5, r6, r7⟩ := hA.runs hi
  have hpc9 : (M.t i).f.pc ≤ 65535 := by have := (hA.st.each _ (hA.prc r4)).2.2.2.2; omega
  have hsk := sk_bound hA hi
  have R1 : Rm own W m a nb tp i [(W.heap.size, zEv)] M (W.alloc zEv) := (Rm.start HV).alloc zEv rfl
  obtain ⟨own1, hv1, hN1⟩ := R1.vm
  have HB := burn_f hv1 hA.ou.fuel i
  have HR2 : Hid (∀ w1, Nf own1 (W.alloc zEv) m a nb tp i { M with fuel := M.fuel - 1 } w1 → Rm own W m a nb tp i [(W.heap.size, zEv)] { M with fuel := M.fuel - 1 } w1) := hN1 _
  have hbk : burnP M = ok { M with fuel := M.fuel - 1 } () := if_neg hfu
  rw [hbk] at HB
  have HO0 : Hid (callP M i x = callB { M with fuel := M.fuel - 1 } i x) := callP_eq x hfu
  obtain ⟨fn, hfn⟩ : ∃ fn, fn = (M.t i).sk[q]?.getD nilV := ⟨_, rfl⟩
  have HFN : Hid (fn = (M.t i).sk[q]?.getD nilV) := hfn
  rw [← hfn] at h6 hb
  have hK := hA.fuel (n := M.fuel - 1) (by omega)
  have HK0 : Hid (Alive (M.kk i) (some i)) := hK.setPc (i := i) hi ((M.t i).f.pc + 1) (by show _ ≤ (M.p (M.t i).f.clo).nc; omega)
  have HKL : Hid ((M.kk i).th.length = M.th.length) := by show (Mc.setT _ i _).th.length = _; rw [th_setT]
  clear hK
  clear hfn
  obtain ⟨fT, fN, fS⟩ := fn
  have hfa := Th.f_at (t := M.t i) r2
  rw [hln, Nat.add_sub_cancel] at hfa
  obtain ⟨pc, hpce⟩ : ∃ pc, pc = (M.t i).f.pc := ⟨_, rfl⟩
  have HH : Hid (Vm own W m a nb tp M ∧ Alive M (some i) ∧ W.cell? ⟨a, i * 5 + 3, none⟩ = some (.slice (some ⟨fb, 0, none⟩) (n + 1) cp) ∧ (M.t i).fr.length = n + 1 ∧ (M.t i).sk.length = q + 1 + x ∧ (M.t i).fr[n]? = some (M.t i).f ∧ pc = (M.t i).f.pc) := ⟨HV, hA, hfr, hln, hq, hfa, hpce⟩
  have HKT : Hid (i < (M.kk i).th.length ∧ ((M.kk i).t i).sk = (M.t i).sk ∧ ((M.kk i).t i).fr.length = (M.t i).fr.length) := by
    have e1 : (M.kk i).t i = (M.t i).setF { (M.t i).f with pc := (M.t i).f.pc + 1 } := t_setT hi _
    refine ⟨by show i < (Mc.setT _ i _).th.length; rw [th_setT]; exact hi, by rw [e1]; rfl, by rw [e1]; exact List.length_set⟩
  rw [← hpce] at hpc9
  clear HV hv1 hN1 R1 hbk hfu r1 r2 r3 r4 r5 r6 r7 hpc hA hfr hln hfa hpce
  rw [hq] at hsk
  clear hq
  simp only at h6 hb
  have H6 : Hid (fT = 6) := h6
  have HBN : Hid (fN = 10) := hb
  clear h6 hb
  have H0 : Hid (i = 0) := h0
  clear h0
  go_enter Tryz.func90, Tryz.ntmps90
  go_wp2_with fail
  refine HB.mono ?_; rintro e w1 hE
  rcases hE with ⟨_, rfl, hNf⟩ | ⟨h, _⟩ | ⟨h, _⟩
  rotate_left
  · cases h
  · cases h
  have R2 := HR2.out w1 hNf
  obtain ⟨own2, hv2, hN2⟩ := R2.vm
  obtain ⟨sb, scp, s1, s2, s3, s4, s5, sz, s6, s7, s8⟩ := hv2.skE (i := i) hi (k := q) (by show q < (M.t i).sk.length; rw [HH.out.2.2.2.2.1]; omega)
  rw [show (({ M with fuel := M.fuel - 1 } : Mc).t i).sk.length = q + 1 + x from HH.out.2.2.2.2.1] at s1 s2
  rw [show (({ M with fuel := M.fuel - 1 } : Mc).t i).sk[q]?.getD nilV = ⟨fT, fN, fS⟩ from HFN.out.symm] at s6 s7 s8
  simp only at s6 s7 s8
  have hlt2 := hv2.alt
  have f0 : w1.cell? ⟨a, i * 5 + 3, none⟩ = some (.slice (some ⟨fb, 0, none⟩) (n + 1) cp) := R2.rn.frs.trans HH.out.2.2.1
  have hna : ¬ a = fb := (hv2.fna hi f0).1
  have hsbf : ¬ sb = fb := by have := (hv2.fna hi f0).2.2.1; rintro rfl; omega
  obtain ⟨m1, hfb2, m2, fz, m3, f3, m4, m5, m6, f8⟩ := hv2.frame (i := i) hi f0 HH.out.2.2.2.2.2.1
  clear m1 m2 m3 m4 m5 m6
  have R3 := hN2 _ _ (f8 1 (i64 ((M.t i).f.pc + 1)) { (M.t i).f with pc := (M.t i).f.pc + 1 } (by omega) rfl)
  rw [kk_set HH.out.2.2.2.1, ← HH.out.2.2.2.2.2.2] at R3
  have R4 := R3.alloc (vBox fT fN fS) (n := w1.heap.size) (by simp only [size_set])
  rw [← HH.out.2.2.2.2.2.2] at f3
  have fz1 := fz (n * 5 + 1)
  clear fz f8 hN2 hv2 HR2 HB hNf R2 R3 s4 s5 sz
  go_upto_region 7 with fail
  rw [Nat.add_sub_cancel_left]
  have eW : (w1.setCell ⟨fb, n * 5 + 1, none⟩ (.int .i64 ((pc : Int) + 1))).alloc (.cells #[.int .i64 fT, .int .u64 (fN : Int), .string ⟨fS.toArray⟩] 33) = (w1.setCell ⟨fb, n * 5 + 1, none⟩ (i64 (pc + 1))).alloc (vBox fT fN fS) := by rw [show ((pc : Int) + 1) = ((pc + 1 : Nat) : Int) by omega]
  rw [eW]
  have HW4 : Hid (w1.heap.size < ((w1.setCell ⟨fb, n * 5 + 1, none⟩ (i64 (pc + 1))).alloc (vBox fT fN fS)).heap.size) := by show _ < _; simp
  have s1w : ((w1.setCell ⟨fb, n * 5 + 1, none⟩ (i64 (pc + 1))).alloc (vBox fT fN fS)).cell? ⟨a, i * 5 + 2, none⟩ = some (.slice (some ⟨sb, 0, none⟩) (q + 1 + x) scp) := ((below_one (w1.setCell ⟨fb, n * 5 + 1, none⟩ (i64 (pc + 1))) (vBox fT fN fS)).cell (p := ⟨a, i * 5 + 2, none⟩) (by simp only [size_set]; exact hlt2)).trans ((World.cell?_of_block (a := ⟨a, i * 5 + 2, none⟩) (Below.heap_setCell _ _ _ _ hna)).trans s1)
  clear eW s1 s6 s7 s8 f0 f3 fz1 hfb2 s3
  generalize (w1.setCell ⟨fb, n * 5 + 1, none⟩ (i64 (pc + 1))).alloc (vBox fT fN fS) = w4 at *
  obtain ⟨b0, b1, b2, bz⟩ := R4.val (b := w1.heap.size) (T := fT) (N := fN) (S := fS) (by simp)
  obtain ⟨own4, hv4, hN4, hX4⟩ := R4.vmX
  obtain ⟨k0, ek0, hk0, hal, hAV, hsa⟩ := hv4.args HKT.out.1 (q := q) (x := x) (by rw [HKT.out.2.1]; exact HH.out.2.2.2.2.1) s1w
  rw [HKT.out.2.1] at hal hAV
  rw [ek0]
  have HAV : Hid (AV w4.heap.size w4 (.slice (some ⟨sb, k0, none⟩) x x) ((M.t i).sk.drop (q + 1))) := hAV
  have hsl : sb < w4.heap.size := by obtain ⟨_, _, _, h1, h2, _⟩ := hAV; cases h1; exact h2
  clear hAV ek0
  have h6 := H6.out
  subst h6
  have hlt4 := hv4.alt
  have HKA : Hid (Alive (M.kk i) (some i)) := HK0.out
  clear hN4 hX4
  go_wp2_with fail
  go_loopw [14] (fun av wr => ∃ (l : List V) (ab k cap : Nat), av = .slice (some ⟨ab, k, none⟩) l.length cap ∧ l.length ≤ 3 ∧ Hid (AV w4.heap.size wr av l ∧ Below w4.heap.size w4 wr ∧ (∀ j : Nat, l[j]?.getD nilV = ((M.t i).sk.drop (q + 1))[j]?.getD nilV) ∧ ab ≠ a ∧ (ab = sb ∨ w4.heap.size ≤ ab) ∧ (∀ j : Nat, k + l.length * 3 ≤ (q + 1 + x) * 3 ∨ w4.heap.size ≤ ab))) (fun av _ => 10 - lenV av)
  case atStart => exact ⟨(M.t i).sk.drop (q + 1), sb, k0, x, by rw [hal], by omega, HAV.out, Below.refl _ _, fun _ => rfl, hsa, .inl rfl, fun _ => .inl (by rw [hal]; exact hk0)⟩
  case round =>
    obtain ⟨l, ab, k, cap, rfl, hl, HR⟩ := hrel
    by_cases hlt : l.length < 3
    · obtain ⟨av', w', happ, hav', ⟨b', cap', rfl, hge⟩, hbel⟩ := HR.out.1.grow HR.out.2.1.size (by omega) 53
      have dl : decide ((l.length : Int) < (3 : Int)) = true := decide_eq_true (by omega)
      have HREL : Hid (AV w4.heap.size w' (.slice (some ⟨b', 0, none⟩) (l.length + 1) cap') (l ++ [nilV]) ∧ Below w4.heap.size w4 w' ∧ (∀ j : Nat, (l ++ [nilV])[j]?.getD nilV = ((M.t i).sk.drop (q + 1))[j]?.getD nilV) ∧ b' ≠ a ∧ (b' = sb ∨ w4.heap.size ≤ b') ∧ (∀ j : Nat, 0 + (l ++ [nilV]).length * 3 ≤ (q + 1 + x) * 3 ∨ w4.heap.size ≤ b')) := by
        obtain ⟨_, h2, h3, h4, h5, h6⟩ := HR.out
        refine ⟨hav', h2.trans hbel, ?_, by omega, .inr hge, fun _ => .inr hge⟩
        intro j
        rw [← h3 j]
        by_cases cj : j < l.length
        · rw [List.getElem?_append_left cj]
        · by_cases ce : j = l.length
          · subst ce
            rw [List.getElem?_append_right (Nat.le_refl _), Nat.sub_self, List.getElem?_eq_none (Nat.le_refl _)]
            rfl
          · rw [List.getElem?_eq_none (by simp; omega), List.getElem?_eq_none (by omega)]
      have hll : (l ++ [nilV]).length = l.length + 1 := by simp
      have HLL : Hid ((l ++ [nilV]).length = l.length + 1) := hll
      clear hav' hbel hll HAV HR R4 hv4 HH HFN HKT HKA HK0 HO0
      go_wp2_with (at_builtin; refine wpList_append_eq rfl _ _ 53 rfl _ _ _ _ rfl rfl happ ?_)
      go_roundw
      case rel => exact ⟨l ++ [nilV], b', 0, cap', by rw [HLL.out], by rw [HLL.out]; omega, HREL⟩
      case measure => simp [lenV]; omega
    have hl3 : l.length = 3 := by omega
    have dl : decide ((l.length : Int) < (3 : Int)) = false := decide_eq_false (by omega)
    have hbw := HR.out.2.1
    have hlsz := hbw.size
    have b0 := (hbw.cell (p := ⟨w1.heap.size, 0, none⟩) HW4.out).trans b0
    have b1 := (hbw.cell (p := ⟨w1.heap.size, 1, none⟩) HW4.out).trans b1
    have b2 := (hbw.cell (p := ⟨w1.heap.size, 2, none⟩) HW4.out).trans b2
    have hw1r : w1.heap.size < wr.heap.size := Nat.lt_of_lt_of_le HW4.out hlsz
    have R5 := R4.below hbw
    have R6 := (R5.alloc (vBox 0 0 []) rfl).alloc (vBox 0 0 []) (n := wr.heap.size + 1) (by simp)
    obtain ⟨A0r, hab⟩ := HR.out.1.arg (j := 0) (by omega)
    obtain ⟨A1r, _⟩ := HR.out.1.arg (j := 1) (by omega)
    rw [HR.out.2.2.1 0, Nat.zero_mul, Nat.add_zero] at A0r
    rw [HR.out.2.2.1 1, Nat.one_mul] at A1r
    have hA := HH.out.2.1
    have vargs : ∀ v ∈ (M.t i).sk.drop (q + 1), okV M v := fun v hv => hA.skV hi v (List.mem_of_mem_drop hv)
    have va0 : okV (M.kk i) (((M.t i).sk.drop (q + 1))[0]?.getD nilV) := (arg_okV vargs 0).mono (Nat.le_refl _) (Nat.le_refl _) (by rw [HKL.out]; exact Nat.le_refl _)
    have va1 : okV (M.kk i) (((M.t i).sk.drop (q + 1))[1]?.getD nilV) := (arg_okV vargs 1).mono (Nat.le_refl _) (Nat.le_refl _) (by rw [HKL.out]; exact Nat.le_refl _)
    have hOB : Below wr.heap.size wr (box2 wr) := below_two (below_one _ _) (below_one _ _)
    have A0 : Arg (box2 wr) ab k (((M.t i).sk.drop (q + 1))[0]?.getD nilV) := by
      obtain ⟨x0, x1, x2⟩ := A0r
      exact ⟨(hOB.cell (p := ⟨ab, k, none⟩) hab).trans x0, (hOB.cell (p := ⟨ab, k + 1, none⟩) hab).trans x1, (hOB.cell (p := ⟨ab, k + 2, none⟩) hab).trans x2⟩
    have A1 : Arg (box2 wr) ab (k + 3) (((M.t i).sk.drop (q + 1))[1]?.getD nilV) := by
      obtain ⟨x0, x1, x2⟩ := A1r
      exact ⟨(hOB.cell (p := ⟨ab, k + 3, none⟩) hab).trans x0, (hOB.cell (p := ⟨ab, k + 3 + 1, none⟩) hab).trans x1, (hOB.cell (p := ⟨ab, k + 3 + 2, none⟩) hab).trans x2⟩
    have hat := arr_at ab k cap
    have hab2 : ab < (box2 wr).heap.size := by have := hOB.size; omega
    have habr := hab
    have HO0' : Hid (callP M i x = (if i = 0 then thr (M.kk i) noEv (str mYield) else ok (cutP ((M.kk i).setT i { (M.kk i).t i with st := 2 }) i q) ⟨3, 0, 0, (((M.t i).sk.drop (q + 1))[0]?.getD nilV), nilV⟩)) := by
      show _ = _
      rw [HO0.out]
      have e1 : (({ M with fuel := M.fuel - 1 } : Mc).t i).sk.length - x - 1 = q := by show (M.t i).sk.length - x - 1 = q; rw [HH.out.2.2.2.2.1]; omega
      have e2 : ((({ M with fuel := M.fuel - 1 } : Mc).t i).sk[q]?.getD nilV) = ⟨6, fN, fS⟩ := HFN.out.symm
      unfold callB
      simp only
      rw [e1, e2, HBN.out]
      rfl
    obtain ⟨v0, hv0⟩ : ∃ v, v = (((M.t i).sk.drop (q + 1))[0]?.getD nilV) := ⟨_, rfl⟩
    obtain ⟨v1, hv1⟩ : ∃ v, v = (((M.t i).sk.drop (q + 1))[1]?.getD nilV) := ⟨_, rfl⟩
    rw [← hv0] at A0r va0 HO0'
    rw [← hv1] at A1r va1
    clear hv0 hv1
    obtain ⟨T0, N0, S0⟩ := v0
    obtain ⟨T1, N1, S1⟩ := v1
    clear A0 A1
    obtain ⟨a00, a01, a02⟩ := A0r
    obtain ⟨a10, a11, a12⟩ := A1r
    simp only at a00 a01 a02 a10 a11 a12
    have haltr : a < wr.heap.size := by omega
    have hWr : W.heap.size < wr.heap.size := (R5.rn.box (b := W.heap.size) (o := zEv) (by simp)).2.2.1
    have HWR : Hid (W.heap.size < wr.heap.size) := hWr
    have HT7 : Hid (((M.kk i).t i).sk.length = q + 1 + x ∧ i < (M.kk i).th.length) := ⟨by rw [HKT.out.2.1]; exact HH.out.2.2.2.2.1, HKT.out.1⟩
    have hfN := HBN.out
    subst hfN
    obtain ⟨own5, hv5, _⟩ := R5.vm
    obtain ⟨t9, t5⟩ := hv5.c9V
    obtain ⟨_, _, qm⟩ := hv5.cellM (Below.refl _ _)
    have haba : ab ≠ a := HR.out.2.2.2.1
    have hi0 : (i == 0) = true := by simpa using H0.out
    have hi1 : ((i : Int) == 0) = true := by rw [H0.out]; rfl
    have HO : Hid (callP M i x = thr (M.kk i) noEv (str [121, 105, 101, 108, 100])) := by rw [HO0'.out]; exact if_pos H0.out
    have HT := raise_end [121, 105, 101, 108, 100] (box2 wr)
    have HSZ : Hid (∀ {b}, (box2 wr).heap.size ≤ b → W.heap.size ≤ b) := fun h => Nat.le_trans (R6.rn.choose_spec.2.2.1.size) h
    have R4' := R6
    clear R6 hv4 hv5 va0 va1 vargs hA hOB HR HAV HH HFN HKT HKA HK0 HO0 HKL hbw HO0' R4 R5
    clear hsl hsa hk0 hal s1w hlt4 hlsz hpc9 hna hsbf
    go_wp2_with fail
    refine HT.mono ?_; rintro e w5 ht
    obtain ⟨bb, rfl, ht2, ht3, ht4⟩ := ht
    have HE : Hid (OuEnd own W m a nb tp (thr (M.kk i) noEv (str [121, 105, 101, 108, 100])) evV (thrE bb) w5) := .inr (.inl ⟨rfl, ⟨bb, rfl, HSZ.out ht2, ht3⟩, R4'.rn.nx.below ht4⟩)
    clear ht2 ht3 ht4 R4' HT
    go_wp2_with fail
    simp [bodyPost]
    rw [HO.out]
    exact HE.out
set_option maxRecDepth 16000 in
set_option maxHeartbeats 8000000 in
theorem call_y_go {own : Nat → Nat} {W : World} {m a nb tp : Nat} {M : Mc} (HV : Vm own W m a nb tp M) {i : Nat} (hA : Alive M (some i)) (hi : i < M.th.length) {fb n cp : Nat} (hfr : W.cell? ⟨a, i * 5 + 3, none⟩ = some (.slice (some ⟨fb, 0, none⟩) (n + 1) cp)) (hln : (M.t i).fr.length = n + 1) (x q : Nat) (hx : x ≤ 3) (hq : (M.t i).sk.length = q + 1 + x) (hpc : (M.t i).f.pc < (M.p (M.t i).f.clo).nc) (hfu : ¬ M.fuel = 0) (h6 : ((M.t i).sk[q]?.getD nilV).T = 6) (hb : ((M.t i).sk[q]?.getD nilV).N = 10) (h0 : i ≠ 0) :
    Calls Tryz.prog 90 #[.pointer (some ⟨m, 0, none⟩), i64 i, .pointer (some ⟨a, i * 5, none⟩), .pointer (some ⟨fb, n * 5, none⟩), i64 x] W (OuEnd own W m a nb tp (callP M i x) evV) := by
  obtain ⟨r1, r2, r3, r4, r5, r6, r7⟩ := hA.runs hi
  have hpc9 : (M.t i).f.pc ≤ 65535 := by have := (hA.st.each _ (hA.prc r4)).2.2.2.2; omega
  have hsk := sk_bound hA hi
  have R1 : Rm own W m a nb tp i [(W.heap.size, zEv)] M (W.alloc zEv) := (Rm.start HV).alloc zEv rfl
  obtain ⟨own1, hv1, hN1⟩ := R1.vm
  have HB := burn_f hv1 hA.ou.fuel i
  have HR2 : Hid (∀ w1, Nf own1 (W.alloc zEv) m a nb tp i { M with fuel := M.fuel - 1 } w1 → Rm own W m a nb tp i [(W.heap.size, zEv)] { M with fuel := M.fuel - 1 } w1) := hN1 _
  have hbk : burnP M = ok { M with fuel := M.fuel - 1 } () := if_neg hfu
  rw [hbk] at HB
  have HO0 : Hid (callP M i x = callB { M with fuel := M.fuel - 1 } i x) := callP_eq x hfu
  obtain ⟨fn, hfn⟩ : ∃ fn, fn = (M.t i).sk[q]?.getD nilV := ⟨_, rfl⟩
  have HFN : Hid (fn = (M.t i).sk[q]?.getD nilV) := hfn
  rw [← hfn] at h6 hb
  have hK := hA.fuel (n := M.fuel - 1) (by omega)
  have HK0 : Hid (Alive (M.kk i) (some i)) := hK.setPc (i := i) hi ((M.t i).f.pc + 1) (by show _ ≤ (M.p (M.t i).f.clo).nc; omega)
  have HKL : Hid ((M.kk i).th.length = M.th.length) := by show (Mc.setT _ i _).th.length = _; rw [th_setT]
  clear hK
  clear hfn
  obtain ⟨fT, fN, fS⟩ := fn
  have hfa := Th.f_at (t := M.t i) r2
  rw [hln, Nat.add_sub_cancel] at hfa
  obtain ⟨pc, hpce⟩ : ∃ pc, pc = (M.t i).f.pc := ⟨_, rfl⟩
  have HH : Hid (Vm own W m a nb tp M ∧ Alive M (some i) ∧ W.cell? ⟨a, i * 5 + 3, none⟩ = some (.slice (some ⟨fb, 0, none⟩) (n + 1) cp) ∧ (M.t i).fr.length = n + 1 ∧ (M.t i).sk.length = q + 1 + x ∧ (M.t i).fr[n]? = some (M.t i).f ∧ pc = (M.t i).f.pc) := ⟨HV, hA, hfr, hln, hq, hfa, hpce⟩
  have HKT : Hid (i < (M.kk i).th.length ∧ ((M.kk i).t i).sk = (M.t i).sk ∧ ((M.kk i).t i).fr.length = (M.t i).fr.length) := by
    have e1 : (M.kk i).t i = (M.t i).setF { (M.t i).f with pc := (M.t i).f.pc + 1 } := t_setT hi _
    refine ⟨by show i < (Mc.setT _ i _).th.length; rw [th_setT]; exact hi, by rw [e1]; rfl, by rw [e1]; exact List.length_set⟩
  rw [← hpce] at hpc9
  clear HV hv1 hN1 R1 hbk hfu r1 r2 r3 r4 r5 r6 r7 hpc hA hfr hln hfa hpce
  rw [hq] at hsk
  clear hq
  simp only at h6 hb
  have H6 : Hid (fT = 6) := h6
  have HBN : Hid (fN = 10) := hb
  clear h6 hb
  have H0 : Hid (i ≠ 0) := h0
  clear h0
  go_enter Tryz.func90, Tryz.ntmps90
  go_wp2_with fail
  refine HB.mono ?_; rintro e w1 hE
  rcases hE with ⟨_, rfl, hNf⟩ | ⟨h, _⟩ | ⟨h, _⟩
  rotate_left
  · cases h
  · cases h
  have R2 := HR2.out w1 hNf
  obtain ⟨own2, hv2, hN2⟩ := R2.vm
  obtain ⟨sb, scp, s1, s2, s3, s4, s5, sz, s6, s7, s8⟩ := hv2.skE (i := i) hi (k := q) (by show q < (M.t i).sk.length; rw [HH.out.2.2.2.2.1]; omega)
  rw [show (({ M with fuel := M.fuel - 1 } : Mc).t i).sk.length = q + 1 + x from HH.out.2.2.2.2.1] at s1 s2
  rw [show (({ M with fuel := M.fuel - 1 } : Mc).t i).sk[q]?.getD nilV = ⟨fT, fN, fS⟩ from HFN.out.symm] at s6 s7 s8
  simp only at s6 s7 s8
  have hlt2 := hv2.alt
  have f0 : w1.cell? ⟨a, i * 5 + 3, none⟩ = some (.slice (some ⟨fb, 0, none⟩) (n + 1) cp) := R2.rn.frs.trans HH.out.2.2.1
  have hna : ¬ a = fb := (hv2.fna hi f0).1
  have hsbf : ¬ sb = fb := by have := (hv2.fna hi f0).2.2.1; rintro rfl; omega
  obtain ⟨m1, hfb2, m2, fz, m3, f3, m4, m5, m6, f8⟩ := hv2.frame (i := i) hi f0 HH.out.2.2.2.2.2.1
  clear m1 m2 m3 m4 m5 m6
  have R3 := hN2 _ _ (f8 1 (i64 ((M.t i).f.pc + 1)) { (M.t i).f with pc := (M.t i).f.pc + 1 } (by omega) rfl)
  rw [kk_set HH.out.2.2.2.1, ← HH.out.2.2.2.2.2.2] at R3
  have R4 := R3.alloc (vBox fT fN fS) (n := w1.heap.size) (by simp only [size_set])
  rw [← HH.out.2.2.2.2.2.2] at f3
  have fz1 := fz (n * 5 + 1)
  clear fz f8 hN2 hv2 HR2 HB hNf R2 R3 s4 s5 sz
  go_upto_region 7 with fail
  rw [Nat.add_sub_cancel_left]
  have eW : (w1.setCell ⟨fb, n * 5 + 1, none⟩ (.int .i64 ((pc : Int) + 1))).alloc (.cells #[.int .i64 fT, .int .u64 (fN : Int), .string ⟨fS.toArray⟩] 33) = (w1.setCell ⟨fb, n * 5 + 1, none⟩ (i64 (pc + 1))).alloc (vBox fT fN fS) := by rw [show ((pc : Int) + 1) = ((pc + 1 : Nat) : Int) by omega]
  rw [eW]
  have HW4 : Hid (w1.heap.size < ((w1.setCell ⟨fb, n * 5 + 1, none⟩ (i64 (pc + 1))).alloc (vBox fT fN fS)).heap.size) := by show _ < _; simp
  have s1w : ((w1.setCell ⟨fb, n * 5 + 1, none⟩ (i64 (pc + 1))).alloc (vBox fT fN fS)).cell? ⟨a, i * 5 + 2, none⟩ = some (.slice (some ⟨sb, 0, none⟩) (q + 1 + x) scp) := ((below_one (w1.setCell ⟨fb, n * 5 + 1, none⟩ (i64 (pc + 1))) (vBox fT fN fS)).cell (p := ⟨a, i * 5 + 2, none⟩) (by simp only [size_set]; exact hlt2)).trans ((World.cell?_of_block (a := ⟨a, i * 5 + 2, none⟩) (Below.heap_setCell _ _ _ _ hna)).trans s1)
  clear eW s1 s6 s7 s8 f0 f3 fz1 hfb2 s3
  generalize (w1.setCell ⟨fb, n * 5 + 1, none⟩ (i64 (pc + 1))).alloc (vBox fT fN fS) = w4 at *
  obtain ⟨b0, b1, b2, bz⟩ := R4.val (b := w1.heap.size) (T := fT) (N := fN) (S := fS) (by simp)
  obtain ⟨own4, hv4, hN4, hX4⟩ := R4.vmX
  obtain ⟨k0, ek0, hk0, hal, hAV, hsa⟩ := hv4.args HKT.out.1 (q := q) (x := x) (by rw [HKT.out.2.1]; exact HH.out.2.2.2.2.1) s1w
  rw [HKT.out.2.1] at hal hAV
  rw [ek0]
  have HAV : Hid (AV w4.heap.size w4 (.slice (some ⟨sb, k0, none⟩) x x) ((M.t i).sk.drop (q + 1))) := hAV
  have hsl : sb < w4.heap.size := by obtain ⟨_, _, _, h1, h2, _⟩ := hAV; cases h1; exact h2
  clear hAV ek0
  have h6 := H6.out
  subst h6
  have hlt4 := hv4.alt
  have HKA : Hid (Alive (M.kk i) (some i)) := HK0.out
  clear hN4 hX4
  go_wp2_with fail
  go_loopw [14] (fun av wr => ∃ (l : List V) (ab k cap : Nat), av = .slice (some ⟨ab, k, none⟩) l.length cap ∧ l.length ≤ 3 ∧ Hid (AV w4.heap.size wr av l ∧ Below w4.heap.size w4 wr ∧ (∀ j : Nat, l[j]?.getD nilV = ((M.t i).sk.drop (q + 1))[j]?.getD nilV) ∧ ab ≠ a ∧ (ab = sb ∨ w4.heap.size ≤ ab) ∧ (∀ j : Nat, k + l.length * 3 ≤ (q + 1 + x) * 3 ∨ w4.heap.size ≤ ab))) (fun av _ => 10 - lenV av)
  case atStart => exact ⟨(M.t i).sk.drop (q + 1), sb, k0, x, by rw [hal], by omega, HAV.out, Below.refl _ _, fun _ => rfl, hsa, .inl rfl, fun _ => .inl (by rw [hal]; exact hk0)⟩
  case round =>
    obtain ⟨l, ab, k, cap, rfl, hl, HR⟩ := hrel
    by_cases hlt : l.length < 3
    · obtain ⟨av', w', happ, hav', ⟨b', cap', rfl, hge⟩, hbel⟩ := HR.out.1.grow HR.out.2.1.size (by omega) 53
      have dl : decide ((l.length : Int) < (3 : Int)) = true := decide_eq_true (by omega)
      have HREL : Hid (AV w4.heap.size w' (.slice (some ⟨b', 0, none⟩) (l.length + 1) cap') (l ++ [nilV]) ∧ Below w4.heap.size w4 w' ∧ (∀ j : Nat, (l ++ [nilV])[j]?.getD nilV = ((M.t i).sk.drop (q + 1))[j]?.getD nilV) ∧ b' ≠ a ∧ (b' = sb ∨ w4.heap.size ≤ b') ∧ (∀ j : Nat, 0 + (l ++ [nilV]).length * 3 ≤ (q + 1 + x) * 3 ∨ w4.heap.size ≤ b')) := by
        obtain ⟨_, h2, h3, h4, h5, h6⟩ := HR.out
        refine ⟨hav', h2.trans hbel, ?_, by omega, .inr hge, fun _ => .inr hge⟩
        intro j
        rw [← h3 j]
        by_cases cj : j < l.length
        · rw [List.getElem?_append_left cj]
        · by_cases ce : j = l.length
          · subst ce
            rw [List.getElem?_append_right (Nat.le_refl _), Nat.sub_self, List.getElem?_eq_none (Nat.le_refl _)]
            rfl
          · rw [List.getElem?_eq_none (by simp; omega), List.getElem?_eq_none (by omega)]
      have hll : (l ++ [nilV]).length = l.length + 1 := by simp
      have HLL : Hid ((l ++ [nilV]).length = l.length + 1) := hll
      clear hav' hbel hll HAV HR R4 hv4 HH HFN HKT HKA HK0 HO0
      go_wp2_with (at_builtin; refine wpList_append_eq rfl _ _ 53 rfl _ _ _ _ rfl rfl happ ?_)
      go_roundw
      case rel => exact ⟨l ++ [nilV], b', 0, cap', by rw [HLL.out], by rw [HLL.out]; omega, HREL⟩
      case measure => simp [lenV]; omega
    have hl3 : l.length = 3 := by omega
    have dl : decide ((l.length : Int) < (3 : Int)) = false := decide_eq_false (by omega)
    have hbw := HR.out.2.1
    have hlsz := hbw.size
    have b0 := (hbw.cell (p := ⟨w1.heap.size, 0, none⟩) HW4.out).trans b0
    have b1 := (hbw.cell (p := ⟨w1.heap.size, 1, none⟩) HW4.out).trans b1
    have b2 := (hbw.cell (p := ⟨w1.heap.size, 2, none⟩) HW4.out).trans b2
    have hw1r : w1.heap.size < wr.heap.size := Nat.lt_of_lt_of_le HW4.out hlsz
    have R5 := R4.below hbw
    have R6 := (R5.alloc (vBox 0 0 []) rfl).alloc (vBox 0 0 []) (n := wr.heap.size + 1) (by simp)
    obtain ⟨A0r, hab⟩ := HR.out.1.arg (j := 0) (by omega)
    obtain ⟨A1r, _⟩ := HR.out.1.arg (j := 1) (by omega)
    rw [HR.out.2.2.1 0, Nat.zero_mul, Nat.add_zero] at A0r
    rw [HR.out.2.2.1 1, Nat.one_mul] at A1r
    have hA := HH.out.2.1
    have vargs : ∀ v ∈ (M.t i).sk.drop (q + 1), okV M v := fun v hv => hA.skV hi v (List.mem_of_mem_drop hv)
    have va0 : okV (M.kk i) (((M.t i).sk.drop (q + 1))[0]?.getD nilV) := (arg_okV vargs 0).mono (Nat.le_refl _) (Nat.le_refl _) (by rw [HKL.out]; exact Nat.le_refl _)
    have va1 : okV (M.kk i) (((M.t i).sk.drop (q + 1))[1]?.getD nilV) := (arg_okV vargs 1).mono (Nat.le_refl _) (Nat.le_refl _) (by rw [HKL.out]; exact Nat.le_refl _)
    have hOB : Below wr.heap.size wr (box2 wr) := below_two (below_one _ _) (below_one _ _)
    have A0 : Arg (box2 wr) ab k (((M.t i).sk.drop (q + 1))[0]?.getD nilV) := by
      obtain ⟨x0, x1, x2⟩ := A0r
      exact ⟨(hOB.cell (p := ⟨ab, k, none⟩) hab).trans x0, (hOB.cell (p := ⟨ab, k + 1, none⟩) hab).trans x1, (hOB.cell (p := ⟨ab, k + 2, none⟩) hab).trans x2⟩
    have A1 : Arg (box2 wr) ab (k + 3) (((M.t i).sk.drop (q + 1))[1]?.getD nilV) := by
      obtain ⟨x0, x1, x2⟩ := A1r
      exact ⟨(hOB.cell (p := ⟨ab, k + 3, none⟩) hab).trans x0, (hOB.cell (p := ⟨ab, k + 3 + 1, none⟩) hab).trans x1, (hOB.cell (p := ⟨ab, k + 3 + 2, none⟩) hab).trans x2⟩
    have hat := arr_at ab k cap
    have hab2 : ab < (box2 wr).heap.size := by have := hOB.size; omega
    have habr := hab
    have HO0' : Hid (callP M i x = (if i = 0 then thr (M.kk i) noEv (str mYield) else ok (cutP ((M.kk i).setT i { (M.kk i).t i with st := 2 }) i q) ⟨3, 0, 0, (((M.t i).sk.drop (q + 1))[0]?.getD nilV), nilV⟩)) := by
      show _ = _
      rw [HO0.out]
      have e1 : (({ M with fuel := M.fuel - 1 } : Mc).t i).sk.length - x - 1 = q := by show (M.t i).sk.length - x - 1 = q; rw [HH.out.2.2.2.2.1]; omega
      have e2 : ((({ M with fuel := M.fuel - 1 } : Mc).t i).sk[q]?.getD nilV) = ⟨6, fN, fS⟩ := HFN.out.symm
      unfold callB
      simp only
      rw [e1, e2, HBN.out]
      rfl
    obtain ⟨v0, hv0⟩ : ∃ v, v = (((M.t i).sk.drop (q + 1))[0]?.getD nilV) := ⟨_, rfl⟩
    obtain ⟨v1, hv1⟩ : ∃ v, v = (((M.t i).sk.drop (q + 1))[1]?.getD nilV) := ⟨_, rfl⟩
    rw [← hv0] at A0r va0 HO0'
    rw [← hv1] at A1r va1
    clear hv0 hv1
    obtain ⟨T0, N0, S0⟩ := v0
    obtain ⟨T1, N1, S1⟩ := v1
    clear A0 A1
    obtain ⟨a00, a01, a02⟩ := A0r
    obtain ⟨a10, a11, a12⟩ := A1r
    simp only at a00 a01 a02 a10 a11 a12
    have haltr : a < wr.heap.size := by omega
    have hWr : W.heap.size < wr.heap.size := (R5.rn.box (b := W.heap.size) (o := zEv) (by simp)).2.2.1
    have HWR : Hid (W.heap.size < wr.heap.size) := hWr
    have HT7 : Hid (((M.kk i).t i).sk.length = q + 1 + x ∧ i < (M.kk i).th.length) := ⟨by rw [HKT.out.2.1]; exact HH.out.2.2.2.2.1, HKT.out.1⟩
    have hfN := HBN.out
    subst hfN
    obtain ⟨own5, hv5, _⟩ := R5.vm
    obtain ⟨t9, t5⟩ := hv5.c9V
    obtain ⟨_, _, qm⟩ := hv5.cellM (Below.refl _ _)
    have haba : ab ≠ a := HR.out.2.2.2.1
    have HNAB : Hid (¬ ab = W.heap.size) := by
      show ¬ ab = W.heap.size
      rcases HR.out.2.2.2.2.1 with h | h
      · intro e
        obtain ⟨own9, _, g2, _, g4, _⟩ := R4.rn
        obtain ⟨b9, cp9, u1, _, _, u4, _⟩ := g2.skAll HKT.out.1 (by rw [HKT.out.2.1, HH.out.2.2.2.2.1]; omega)
        rw [s1w] at u1
        injection u1 with u1
        injection u1 with u1
        injection u1 with u1
        injection u1 with u1
        have g5 := (g4 (W.heap.size, zEv) (by simp)).2.1
        simp only at g5
        rw [← e, h, u1, u4] at g5
        omega
      · have h2 := (R4.rn.box (b := W.heap.size) (o := zEv) (by simp)).2.2.1
        omega
    have HO : Hid (callP M i x = ok (cutP ((M.kk i).setT i { (M.kk i).t i with st := 2 }) i q) ⟨3, 0, 0, ⟨T0, N0, S0⟩, nilV⟩) := by rw [HO0'.out]; exact if_neg H0.out
    have hi0 : (i == 0) = false := by simpa using H0.out
    have hi1 : ((i : Int) == 0) = false := by rw [beq_eq_false_iff_ne]; have := H0.out; omega
    have R6q := R6
    have HBLK : Hid (((wr.alloc (.cells #[.int .i64 0, .int .u64 0, .string ⟨#[]⟩] 33)).alloc (.cells #[.int .i64 0, .int .u64 0, .string ⟨#[]⟩] 33)).heap[ab]? = wr.heap[ab]?) := hOB.block ab habr
    clear R6 hv4 hv5 va0 va1 vargs hA hOB HR HAV HH HFN HKT HKA HK0 HO0 HKL hbw HO0' R4 R5
    clear hsl hsa hk0 hal s1w hlt4 hlsz hpc9 hna hsbf
    go_upto_region 42 with fail
    have hblk0 := HBLK.out
    clear HBLK
    generalize (wr.alloc (.cells #[.int .i64 0, .int .u64 0, .string ⟨#[]⟩] 33)).alloc (.cells #[.int .i64 0, .int .u64 0, .string ⟨#[]⟩] 33) = w6 at *
    have hblk : w6.heap[ab]? = wr.heap[ab]? := hblk0
    obtain ⟨own6, hv6, hN6, hX6⟩ := R6q.vmX
    have i1 := hv6.stE HT7.out.2
    have i2 : w6.frozen? ⟨a, i * 5, none⟩ = false := by obtain ⟨vals, L, H⟩ := hv6; exact H.az _
    have ialt := hv6.alt
    have R7 : Rn own W m a nb tp i _ _ ((M.kk i).setT i { (M.kk i).t i with st := 2 }) (w6.setCell ⟨a, i * 5, none⟩ (.int .i64 2)) := hX6 _ _ (hv6.setSt HT7.out.2 2)
    have hb7 : (w6.setCell ⟨a, i * 5, none⟩ (.int .i64 2)).heap[ab]? = wr.heap[ab]? := (Below.heap_setCell _ _ _ _ haba).trans hblk
    clear hv6 hN6 hX6 R6q hblk
    go_upto_region 43 with fail
    clear i1 i2
    generalize w6.setCell ⟨a, i * 5, none⟩ (.int .i64 2) = w7 at *
    obtain ⟨own7, hv7, _, _⟩ := R7.vm
    have hi7 : i < ((M.kk i).setT i { (M.kk i).t i with st := 2 }).th.length := by rw [th_setT]; exact HT7.out.2
    have hl7 : (((M.kk i).setT i { (M.kk i).t i with st := 2 }).t i).sk.length = q + 1 + x := by rw [t_setT HT7.out.2]; exact HT7.out.1
    obtain ⟨ad7, scp7, t1, t2, t3, _⟩ := hv7.sk hi7
    rw [hl7] at t1 t2
    have halt7 := hv7.alt
    have hq7 : q ≤ scp7 := by omega
    have R8 := R7.cutSk hi7 t1 q (by rw [hl7]; omega)
    have hb8 : (w7.setCell ⟨a, i * 5 + 2, none⟩ (.slice ad7 q scp7)).heap[ab]? = wr.heap[ab]? := (Below.heap_setCell _ _ _ _ haba).trans hb7
    clear hv7 hb7
    go_upto_region 44 with fail
    clear t1 t3
    generalize w7.setCell ⟨a, i * 5 + 2, none⟩ (.slice ad7 q scp7) = w8 at *
    have habw : ab < w8.heap.size := by rcases Nat.lt_or_ge ab w8.heap.size with h | h; exact h; rw [Array.getElem?_eq_none h, Array.getElem?_eq_getElem habr] at hb8; cases hb8
    have x00 := (World.cell?_of_block (a := ⟨ab, k, none⟩) hb8).trans a00
    have x01 := (World.cell?_of_block (a := ⟨ab, k + 1, none⟩) hb8).trans a01
    have x02 := (World.cell?_of_block (a := ⟨ab, k + 2, none⟩) hb8).trans a02
    have x10 := (World.cell?_of_block (a := ⟨ab, k + 3, none⟩) hb8).trans a10
    have x11 := (World.cell?_of_block (a := ⟨ab, k + 3 + 1, none⟩) hb8).trans a11
    have x12 := (World.cell?_of_block (a := ⟨ab, k + 3 + 2, none⟩) hb8).trans a12
    obtain ⟨e60, e61, e62, e63, e64, e65, e66, e67, e68, z6⟩ := cells9 (R8.box (b := W.heap.size) (o := zEv) (by simp)).1
    have nab : ¬ ab = W.heap.size := HNAB.out
    have HF : Hid (∀ x0 x1 x2 x3 x4 x5 x6 x7 x8, Nx own W m a nb tp (cutP ((M.kk i).setT i { (M.kk i).t i with st := 2 }) i q) (putE w8 W.heap.size x0 x1 x2 x3 x4 x5 x6 x7 x8)) := fun x0 x1 x2 x3 x4 x5 x6 x7 x8 => R8.putE (by simp) x0 x1 x2 x3 x4 x5 x6 x7 x8
    have HFd : Hid (∀ x0 x1 x2 x3 x4 x5 x6 x7 x8, Nx own W m a nb tp (cutP ((M.kk i).setT i { (M.kk i).t i with st := 2 }) i q) (putE w8 W.heap.size x0 x1 x2 x3 x4 x5 x6 x7 x8).drew) := fun x0 x1 x2 x3 x4 x5 x6 x7 x8 => (HF.out x0 x1 x2 x3 x4 x5 x6 x7 x8).below (Below.drew (Below.refl _ _))
    clear R8 R7 hb8 a00 a01 a02 a10 a11 a12
    go_wp2_with fail
    refine bodyPost_ret (v := .agg #[.int .i64 3, .int .i64 0, .int .i64 0, .int .i64 T0, .int .u64 (N0 : Int), .string ⟨S0.toArray⟩, .int .i64 0, .int .u64 0, .string ⟨#[]⟩]) (by first | (simp [results, go_sem]; done) | (simp [results, go_sem, e60, e61, e62, e63, e64, e65, e66, e67, e68]; done)) rfl ?_
    rw [HO.out]
    exact .inl ⟨rfl, rfl, HF.out _ _ _ _ _ _ _ _ _⟩
set_option maxRecDepth 16000 in
set_option maxHeartbeats 8000000 in
theorem call_r_go1 {own : Nat → Nat} {W : World} {m a nb tp : Nat} {M : Mc} (HV : Vm own W m a nb tp M) {i : Nat} (hA : Alive M (some i)) (hi : i < M.th.length) {fb n cp : Nat} (hfr : W.cell? ⟨a, i * 5 + 3, none⟩ = some (.slice (some ⟨fb, 0, none⟩) (n + 1) cp)) (hln : (M.t i).fr.length = n + 1) (x q : Nat) (hx : x ≤ 3) (hq : (M.t i).sk.length = q + 1 + x) (hpc : (M.t i).f.pc < (M.p (M.t i).f.clo).nc) (hfu : ¬ M.fuel = 0) (h6 : ((M.t i).sk[q]?.getD nilV).T = 6) (hb : ((M.t i).sk[q]?.getD nilV).N = 9) (h0 : (((M.t i).sk.drop (q + 1))[0]?.getD nilV).T = 7) (hs : ((M.kk i).t (((M.t i).sk.drop (q + 1))[0]?.getD nilV).N).st = 1) :
    Calls Tryz.prog 90 #[.pointer (some ⟨m, 0, none⟩), i64 i, .pointer (some ⟨a, i * 5, none⟩), .pointer (some ⟨fb, n * 5, none⟩), i64 x] W (OuEnd own W m a nb tp (callP M i x) evV) := by
  obtain ⟨r1, r2, r3, r4, r5, r6, r7⟩ := hA.runs hi
  have hpc9 : (M.t i).f.pc ≤ 65535 := by have := (hA.st.each _ (hA.prc r4)).2.2.2.2; omega
  have hsk := sk_bound hA hi
  have R1 : Rm own W m a nb tp i [(W.heap.size, zEv)] M (W.alloc zEv) := (Rm.start HV).alloc zEv rfl
  obtain ⟨own1, hv1, hN1⟩ := R1.vm
  have HB := burn_f hv1 hA.ou.fuel i
  have HR2 : Hid (∀ w1, Nf own1 (W.alloc zEv) m a nb tp i { M with fuel := M.fuel - 1 } w1 → Rm own W m a nb tp i [(W.heap.size, zEv)] { M with fuel := M.fuel - 1 } w1) := hN1 _
  have hbk : burnP M = ok { M with fuel := M.fuel - 1 } () := if_neg hfu
  rw [hbk] at HB
  have HO0 : Hid (callP M i x = callB { M with fuel := M.fuel - 1 } i x) := callP_eq x hfu
  obtain ⟨fn, hfn⟩ : ∃ fn, fn = (M.t i).sk[q]?.getD nilV := ⟨_, rfl⟩
  have HFN : Hid (fn = (M.t i).sk[q]?.getD nilV) := hfn
  rw [← hfn] at h6 hb
  have hK := hA.fuel (n := M.fuel - 1) (by omega)
  have HK0 : Hid (Alive (M.kk i) (some i)) := hK.setPc (i := i) hi ((M.t i).f.pc + 1) (by show _ ≤ (M.p (M.t i).f.clo).nc; omega)
  have HKL : Hid ((M.kk i).th.length = M.th.length) := by show (Mc.setT _ i _).th.length = _; rw [th_setT]
  clear hK
  clear hfn
  obtain ⟨fT, fN, fS⟩ := fn
  have hfa := Th.f_at (t := M.t i) r2
  rw [hln, Nat.add_sub_cancel] at hfa
  obtain ⟨pc, hpce⟩ : ∃ pc, pc = (M.t i).f.pc := ⟨_, rfl⟩
  have HH : Hid (Vm own W m a nb tp M ∧ Alive M (some i) ∧ W.cell? ⟨a, i * 5 + 3, none⟩ = some (.slice (some ⟨fb, 0, none⟩) (n + 1) cp) ∧ (M.t i).fr.length = n + 1 ∧ (M.t i).sk.length = q + 1 + x ∧ (M.t i).fr[n]? = some (M.t i).f ∧ pc = (M.t i).f.pc) := ⟨HV, hA, hfr, hln, hq, hfa, hpce⟩
  have HKT : Hid (i < (M.kk i).th.length ∧ ((M.kk i).t i).sk = (M.t i).sk ∧ ((M.kk i).t i).fr.length = (M.t i).fr.length) := by
    have e1 : (M.kk i).t i = (M.t i).setF { (M.t i).f with pc := (M.t i).f.pc + 1 } := t_setT hi _
    refine ⟨by show i < (Mc.setT _ i _).th.length; rw [th_setT]; exact hi, by rw [e1]; rfl, by rw [e1]; exact List.length_set⟩
  rw [← hpce] at hpc9
  clear HV hv1 hN1 R1 hbk hfu r1 r2 r3 r4 r5 r6 r7 hpc hA hfr hln hfa hpce
  rw [hq] at hsk
  clear hq
  simp only at h6 hb
  have H6 : Hid (fT = 6) := h6
  have HBN : Hid (fN = 9) := hb
  clear h6 hb
  go_enter Tryz.func90, Tryz.ntmps90
  go_wp2_with fail
  refine HB.mono ?_; rintro e w1 hE
  rcases hE with ⟨_, rfl, hNf⟩ | ⟨h, _⟩ | ⟨h, _⟩
  rotate_left
  · cases h
  · cases h
  have R2 := HR2.out w1 hNf
  obtain ⟨own2, hv2, hN2⟩ := R2.vm
  obtain ⟨sb, scp, s1, s2, s3, s4, s5, sz, s6, s7, s8⟩ := hv2.skE (i := i) hi (k := q) (by show q < (M.t i).sk.length; rw [HH.out.2.2.2.2.1]; omega)
  rw [show (({ M with fuel := M.fuel - 1 } : Mc).t i).sk.length = q + 1 + x from HH.out.2.2.2.2.1] at s1 s2
  rw [show (({ M with fuel := M.fuel - 1 } : Mc).t i).sk[q]?.getD nilV = ⟨fT, fN, fS⟩ from HFN.out.symm] at s6 s7 s8
  simp only at s6 s7 s8
  have hlt2 := hv2.alt
  have f0 : w1.cell? ⟨a, i * 5 + 3, none⟩ = some (.slice (some ⟨fb, 0, none⟩) (n + 1) cp) := R2.rn.frs.trans HH.out.2.2.1
  have hna : ¬ a = fb := (hv2.fna hi f0).1
  have hsbf : ¬ sb = fb := by have := (hv2.fna hi f0).2.2.1; rintro rfl; omega
  obtain ⟨m1, hfb2, m2, fz, m3, f3, m4, m5, m6, f8⟩ := hv2.frame (i := i) hi f0 HH.out.2.2.2.2.2.1
  clear m1 m2 m3 m4 m5 m6
  have R3 := hN2 _ _ (f8 1 (i64 ((M.t i).f.pc + 1)) { (M.t i).f with pc := (M.t i).f.pc + 1 } (by omega) rfl)
  rw [kk_set HH.out.2.2.2.1, ← HH.out.2.2.2.2.2.2] at R3
  have R4 := R3.alloc (vBox fT fN fS) (n := w1.heap.size) (by simp only [size_set])
  rw [← HH.out.2.2.2.2.2.2] at f3
  have fz1 := fz (n * 5 + 1)
  clear fz f8 hN2 hv2 HR2 HB hNf R2 R3 s4 s5 sz
  go_upto_region 7 with fail
  rw [Nat.add_sub_cancel_left]
  have eW : (w1.setCell ⟨fb, n * 5 + 1, none⟩ (.int .i64 ((pc : Int) + 1))).alloc (.cells #[.int .i64 fT, .int .u64 (fN : Int), .string ⟨fS.toArray⟩] 33) = (w1.setCell ⟨fb, n * 5 + 1, none⟩ (i64 (pc + 1))).alloc (vBox fT fN fS) := by rw [show ((pc : Int) + 1) = ((pc + 1 : Nat) : Int) by omega]
  rw [eW]
  have HW4 : Hid (w1.heap.size < ((w1.setCell ⟨fb, n * 5 + 1, none⟩ (i64 (pc + 1))).alloc (vBox fT fN fS)).heap.size) := by show _ < _; simp
  have s1w : ((w1.setCell ⟨fb, n * 5 + 1, none⟩ (i64 (pc + 1))).alloc (vBox fT fN fS)).cell? ⟨a, i * 5 + 2, none⟩ = some (.slice (some ⟨sb, 0, none⟩) (q + 1 + x) scp) := ((below_one (w1.setCell ⟨fb, n * 5 + 1, none⟩ (i64 (pc + 1))) (vBox fT fN fS)).cell (p := ⟨a, i * 5 + 2, none⟩) (by simp only [size_set]; exact hlt2)).trans ((World.cell?_of_block (a := ⟨a, i * 5 + 2, none⟩) (Below.heap_setCell _ _ _ _ hna)).trans s1)
  clear eW s1 s6 s7 s8 f0 f3 fz1 hfb2 s3
  generalize (w1.setCell ⟨fb, n * 5 + 1, none⟩ (i64 (pc + 1))).alloc (vBox fT fN fS) = w4 at *
  obtain ⟨b0, b1, b2, bz⟩ := R4.val (b := w1.heap.size) (T := fT) (N := fN) (S := fS) (by simp)
  obtain ⟨own4, hv4, hN4, hX4⟩ := R4.vmX
  obtain ⟨k0, ek0, hk0, hal, hAV, hsa⟩ := hv4.args HKT.out.1 (q := q) (x := x) (by rw [HKT.out.2.1]; exact HH.out.2.2.2.2.1) s1w
  rw [HKT.out.2.1] at hal hAV
  rw [ek0]
  have HAV : Hid (AV w4.heap.size w4 (.slice (some ⟨sb, k0, none⟩) x x) ((M.t i).sk.drop (q + 1))) := hAV
  have hsl : sb < w4.heap.size := by obtain ⟨_, _, _, h1, h2, _⟩ := hAV; cases h1; exact h2
  clear hAV ek0
  have h6 := H6.out
  subst h6
  have hlt4 := hv4.alt
  have HKA : Hid (Alive (M.kk i) (some i)) := HK0.out
  clear hN4 hX4
  go_wp2_with fail
  go_loopw [14] (fun av wr => ∃ (l : List V) (ab k cap : Nat), av = .slice (some ⟨ab, k, none⟩) l.length cap ∧ l.length ≤ 3 ∧ Hid (AV w4.heap.size wr av l ∧ Below w4.heap.size w4 wr ∧ (∀ j : Nat, l[j]?.getD nilV = ((M.t i).sk.drop (q + 1))[j]?.getD nilV) ∧ ab ≠ a ∧ (ab = sb ∨ w4.heap.size ≤ ab) ∧ (∀ j : Nat, k + l.length * 3 ≤ (q + 1 + x) * 3 ∨ w4.heap.size ≤ ab))) (fun av _ => 10 - lenV av)
  case atStart => exact ⟨(M.t i).sk.drop (q + 1), sb, k0, x, by rw [hal], by omega, HAV.out, Below.refl _ _, fun _ => rfl, hsa, .inl rfl, fun _ => .inl (by rw [hal]; exact hk0)⟩
  case round =>
    obtain ⟨l, ab, k, cap, rfl, hl, HR⟩ := hrel
    by_cases hlt : l.length < 3
    · obtain ⟨av', w', happ, hav', ⟨b', cap', rfl, hge⟩, hbel⟩ := HR.out.1.grow HR.out.2.1.size (by omega) 53
      have dl : decide ((l.length : Int) < (3 : Int)) = true := decide_eq_true (by omega)
      have HREL : Hid (AV w4.heap.size w' (.slice (some ⟨b', 0, none⟩) (l.length + 1) cap') (l ++ [nilV]) ∧ Below w4.heap.size w4 w' ∧ (∀ j : Nat, (l ++ [nilV])[j]?.getD nilV = ((M.t i).sk.drop (q + 1))[j]?.getD nilV) ∧ b' ≠ a ∧ (b' = sb ∨ w4.heap.size ≤ b') ∧ (∀ j : Nat, 0 + (l ++ [nilV]).length * 3 ≤ (q + 1 + x) * 3 ∨ w4.heap.size ≤ b')) := by
        obtain ⟨_, h2, h3, h4, h5, h6⟩ := HR.out
        refine ⟨hav', h2.trans hbel, ?_, by omega, .inr hge, fun _ => .inr hge⟩
        intro j
        rw [← h3 j]
        by_cases cj : j < l.length
        · rw [List.getElem?_append_left cj]
        · by_cases ce : j = l.length
          · subst ce
            rw [List.getElem?_append_right (Nat.le_refl _), Nat.sub_self, List.getElem?_eq_none (Nat.le_refl _)]
            rfl
          · rw [List.getElem?_eq_none (by simp; omega), List.getElem?_eq_none (by omega)]
      have hll : (l ++ [nilV]).length = l.length + 1 := by simp
      have HLL : Hid ((l ++ [nilV]).length = l.length + 1) := hll
      clear hav' hbel hll HAV HR R4 hv4 HH HFN HKT HKA HK0 HO0
      go_wp2_with (at_builtin; refine wpList_append_eq rfl _ _ 53 rfl _ _ _ _ rfl rfl happ ?_)
      go_roundw
      case rel => exact ⟨l ++ [nilV], b', 0, cap', by rw [HLL.out], by rw [HLL.out]; omega, HREL⟩
      case measure => simp [lenV]; omega
    have hl3 : l.length = 3 := by omega
    have dl : decide ((l.length : Int) < (3 : Int)) = false := decide_eq_false (by omega)
    have hbw := HR.out.2.1
    have hlsz := hbw.size
    have b0 := (hbw.cell (p := ⟨w1.heap.size, 0, none⟩) HW4.out).trans b0
    have b1 := (hbw.cell (p := ⟨w1.heap.size, 1, none⟩) HW4.out).trans b1
    have b2 := (hbw.cell (p := ⟨w1.heap.size, 2, none⟩) HW4.out).trans b2
    have hw1r : w1.heap.size < wr.heap.size := Nat.lt_of_lt_of_le HW4.out hlsz
    have R5 := R4.below hbw
    have R6 := (R5.alloc (vBox 0 0 []) rfl).alloc (vBox 0 0 []) (n := wr.heap.size + 1) (by simp)
    obtain ⟨A0r, hab⟩ := HR.out.1.arg (j := 0) (by omega)
    obtain ⟨A1r, _⟩ := HR.out.1.arg (j := 1) (by omega)
    rw [HR.out.2.2.1 0, Nat.zero_mul, Nat.add_zero] at A0r
    rw [HR.out.2.2.1 1, Nat.one_mul] at A1r
    have hA := HH.out.2.1
    have vargs : ∀ v ∈ (M.t i).sk.drop (q + 1), okV M v := fun v hv => hA.skV hi v (List.mem_of_mem_drop hv)
    have va0 : okV (M.kk i) (((M.t i).sk.drop (q + 1))[0]?.getD nilV) := (arg_okV vargs 0).mono (Nat.le_refl _) (Nat.le_refl _) (by rw [HKL.out]; exact Nat.le_refl _)
    have va1 : okV (M.kk i) (((M.t i).sk.drop (q + 1))[1]?.getD nilV) := (arg_okV vargs 1).mono (Nat.le_refl _) (Nat.le_refl _) (by rw [HKL.out]; exact Nat.le_refl _)
    have hOB : Below wr.heap.size wr (box2 wr) := below_two (below_one _ _) (below_one _ _)
    have A0 : Arg (box2 wr) ab k (((M.t i).sk.drop (q + 1))[0]?.getD nilV) := by
      obtain ⟨x0, x1, x2⟩ := A0r
      exact ⟨(hOB.cell (p := ⟨ab, k, none⟩) hab).trans x0, (hOB.cell (p := ⟨ab, k + 1, none⟩) hab).trans x1, (hOB.cell (p := ⟨ab, k + 2, none⟩) hab).trans x2⟩
    have A1 : Arg (box2 wr) ab (k + 3) (((M.t i).sk.drop (q + 1))[1]?.getD nilV) := by
      obtain ⟨x0, x1, x2⟩ := A1r
      exact ⟨(hOB.cell (p := ⟨ab, k + 3, none⟩) hab).trans x0, (hOB.cell (p := ⟨ab, k + 3 + 1, none⟩) hab).trans x1, (hOB.cell (p := ⟨ab, k + 3 + 2, none⟩) hab).trans x2⟩
    have hat := arr_at ab k cap
    have hab2 : ab < (box2 wr).heap.size := by have := hOB.size; omega
    have habr := hab
    have HO0' : Hid (callP M i x = (if (((M.t i).sk.drop (q + 1))[0]?.getD nilV).T ≠ 7 then thr (M.kk i) noEv (str mCo) else if ((M.kk i).t (((M.t i).sk.drop (q + 1))[0]?.getD nilV).N).st = 1 ∨ ((M.kk i).t (((M.t i).sk.drop (q + 1))[0]?.getD nilV).N).st = 2 then ok (cutP ((M.kk i).setT i { (M.kk i).t i with st := 3 }) i q) ⟨4, (((M.t i).sk.drop (q + 1))[0]?.getD nilV).N, 0, (((M.t i).sk.drop (q + 1))[1]?.getD nilV), nilV⟩ else ok (pushP (cutP (M.kk i) i q) i [boolV false, str (stName ((M.kk i).t (((M.t i).sk.drop (q + 1))[0]?.getD nilV).N).st)]) noEv)) := by
      show _ = _
      rw [HO0.out]
      have e1 : (({ M with fuel := M.fuel - 1 } : Mc).t i).sk.length - x - 1 = q := by show (M.t i).sk.length - x - 1 = q; rw [HH.out.2.2.2.2.1]; omega
      have e2 : ((({ M with fuel := M.fuel - 1 } : Mc).t i).sk[q]?.getD nilV) = ⟨6, fN, fS⟩ := HFN.out.symm
      unfold callB
      simp only
      rw [e1, e2, HBN.out]
      rfl
    have H0 : Hid ((((M.t i).sk.drop (q + 1))[0]?.getD nilV).T = 7) := h0
    clear h0
    have HS : Hid (((M.kk i).t (((M.t i).sk.drop (q + 1))[0]?.getD nilV).N).st = 1) := hs
    clear hs
    obtain ⟨v0, hv0⟩ : ∃ v, v = (((M.t i).sk.drop (q + 1))[0]?.getD nilV) := ⟨_, rfl⟩
    obtain ⟨v1, hv1⟩ : ∃ v, v = (((M.t i).sk.drop (q + 1))[1]?.getD nilV) := ⟨_, rfl⟩
    rw [← hv0] at A0r va0 HO0' H0 HS
    rw [← hv1] at A1r va1 HO0'
    clear hv0 hv1
    obtain ⟨T0, N0, S0⟩ := v0
    obtain ⟨T1, N1, S1⟩ := v1
    clear A0 A1
    obtain ⟨a00, a01, a02⟩ := A0r
    obtain ⟨a10, a11, a12⟩ := A1r
    simp only at a00 a01 a02 a10 a11 a12
    have haltr : a < wr.heap.size := by omega
    have hWr : W.heap.size < wr.heap.size := (R5.rn.box (b := W.heap.size) (o := zEv) (by simp)).2.2.1
    have HWR : Hid (W.heap.size < wr.heap.size) := hWr
    have HT7 : Hid (((M.kk i).t i).sk.length = q + 1 + x ∧ i < (M.kk i).th.length) := ⟨by rw [HKT.out.2.1]; exact HH.out.2.2.2.2.1, HKT.out.1⟩
    have hfN := HBN.out
    subst hfN
    obtain ⟨own5, hv5, _⟩ := R5.vm
    obtain ⟨t9, t5⟩ := hv5.c9V
    obtain ⟨_, _, qm⟩ := hv5.cellM (Below.refl _ _)
    have haba : ab ≠ a := HR.out.2.2.2.1
    have HNAB : Hid (¬ ab = W.heap.size) := by
      show ¬ ab = W.heap.size
      rcases HR.out.2.2.2.2.1 with h | h
      · intro e
        obtain ⟨own9, _, g2, _, g4, _⟩ := R4.rn
        obtain ⟨b9, cp9, u1, _, _, u4, _⟩ := g2.skAll HKT.out.1 (by rw [HKT.out.2.1, HH.out.2.2.2.2.1]; omega)
        rw [s1w] at u1
        injection u1 with u1
        injection u1 with u1
        injection u1 with u1
        injection u1 with u1
        have g5 := (g4 (W.heap.size, zEv) (by simp)).2.1
        simp only at g5
        rw [← e, h, u1, u4] at g5
        omega
      · have h2 := (R4.rn.box (b := W.heap.size) (o := zEv) (by simp)).2.2.1
        omega
    have t7 : T0 = 7 := H0.out
    subst t7
    have HO : Hid (callP M i x = ok (cutP ((M.kk i).setT i { (M.kk i).t i with st := 3 }) i q) ⟨4, N0, 0, ⟨T1, N1, S1⟩, nilV⟩) := by rw [HO0'.out, if_neg (by simp), if_pos (.inl HS.out)]; rfl
    have hlt7 : N0 < (M.kk i).th.length := va0.co_lt rfl
    have hs7 := hv5.stE hlt7
    rw [show ((M.kk i).t N0).st = 1 from HS.out] at hs7
    have hw2 : IntKind.i64.wrap (N0 : Int) = (N0 : Int) := IntWalk.i64_in _ ⟨by omega, by omega⟩
    have R6q0 : Hid (∀ nq, Rm own W m a nb tp i [(wr.heap.size + 1, vBox 0 0 []), (wr.heap.size, vBox 0 0 []), (w1.heap.size, vBox 6 9 fS), (W.heap.size, zEv)] (M.kk i) (((wr.alloc (.cells #[.int .i64 0, .int .u64 0, .string ⟨#[]⟩] 33)).alloc (.cells #[.int .i64 0, .int .u64 0, .string ⟨#[]⟩] 33)).drewN nq)) := fun nq => R6.below (below_drewN (Below.refl _ _) nq)
    have HBLK : Hid (∀ nq, (((wr.alloc (.cells #[.int .i64 0, .int .u64 0, .string ⟨#[]⟩] 33)).alloc (.cells #[.int .i64 0, .int .u64 0, .string ⟨#[]⟩] 33)).drewN nq).heap[ab]? = wr.heap[ab]?) := fun nq => (below_drewN hOB nq).block ab habr
    obtain ⟨tl, hTL⟩ : ∃ tl, tl = (M.kk i).th.length := ⟨_, rfl⟩
    rw [← hTL] at hlt7 t9 t5
    have hlt' : (N0 : Int) < (tl : Int) := by omega
    clear hTL
    clear R6 hv4 hv5 va0 va1 vargs hA hOB HR HAV HH HFN HKT HKA HK0 HO0 HKL hbw HO0' R4 R5
    clear hsl hsa hk0 hal s1w hlt4 hlsz hpc9 hna hsbf
    go_wp2_with fail
    go_quiet (fail)
    have hblk0 := HBLK.out nq
    have R6q := R6q0.out nq
    clear HBLK R6q0
    go_upto_region 33 with fail
    generalize ((wr.alloc (.cells #[.int .i64 0, .int .u64 0, .string ⟨#[]⟩] 33)).alloc (.cells #[.int .i64 0, .int .u64 0, .string ⟨#[]⟩] 33)).drewN nq = w6 at *
    have hblk : w6.heap[ab]? = wr.heap[ab]? := hblk0
    obtain ⟨own6, hv6, hN6, hX6⟩ := R6q.vmX
    have i1 := hv6.stE HT7.out.2
    have i2 : w6.frozen? ⟨a, i * 5, none⟩ = false := by obtain ⟨vals, L, H⟩ := hv6; exact H.az _
    have ialt := hv6.alt
    have R7 : Rn own W m a nb tp i _ _ ((M.kk i).setT i { (M.kk i).t i with st := 3 }) (w6.setCell ⟨a, i * 5, none⟩ (.int .i64 3)) := hX6 _ _ (hv6.setSt HT7.out.2 3)
    have hb7 : (w6.setCell ⟨a, i * 5, none⟩ (.int .i64 3)).heap[ab]? = wr.heap[ab]? := (Below.heap_setCell _ _ _ _ haba).trans hblk
    clear hv6 hN6 hX6 R6q hblk
    go_upto_region 34 with fail
    clear i1 i2
    generalize w6.setCell ⟨a, i * 5, none⟩ (.int .i64 3) = w7 at *
    obtain ⟨own7, hv7, _, _⟩ := R7.vm
    have hi7 : i < ((M.kk i).setT i { (M.kk i).t i with st := 3 }).th.length := by rw [th_setT]; exact HT7.out.2
    have hl7 : (((M.kk i).setT i { (M.kk i).t i with st := 3 }).t i).sk.length = q + 1 + x := by rw [t_setT HT7.out.2]; exact HT7.out.1
    obtain ⟨ad7, scp7, t1, t2, t3, _⟩ := hv7.sk hi7
    rw [hl7] at t1 t2
    have halt7 := hv7.alt
    have hq7 : q ≤ scp7 := by omega
    have R8 := R7.cutSk hi7 t1 q (by rw [hl7]; omega)
    have hb8 : (w7.setCell ⟨a, i * 5 + 2, none⟩ (.slice ad7 q scp7)).heap[ab]? = wr.heap[ab]? := (Below.heap_setCell _ _ _ _ haba).trans hb7
    clear hv7 hb7
    go_upto_region 35 with fail
    clear t1 t3
    generalize w7.setCell ⟨a, i * 5 + 2, none⟩ (.slice ad7 q scp7) = w8 at *
    have habw : ab < w8.heap.size := by rcases Nat.lt_or_ge ab w8.heap.size with h | h; exact h; rw [Array.getElem?_eq_none h, Array.getElem?_eq_getElem habr] at hb8; cases hb8
    have x00 := (World.cell?_of_block (a := ⟨ab, k, none⟩) hb8).trans a00
    have x01 := (World.cell?_of_block (a := ⟨ab, k + 1, none⟩) hb8).trans a01
    have x02 := (World.cell?_of_block (a := ⟨ab, k + 2, none⟩) hb8).trans a02
    have x10 := (World.cell?_of_block (a := ⟨ab, k + 3, none⟩) hb8).trans a10
    have x11 := (World.cell?_of_block (a := ⟨ab, k + 3 + 1, none⟩) hb8).trans a11
    have x12 := (World.cell?_of_block (a := ⟨ab, k + 3 + 2, none⟩) hb8).trans a12
    obtain ⟨e60, e61, e62, e63, e64, e65, e66, e67, e68, z6⟩ := cells9 (R8.box (b := W.heap.size) (o := zEv) (by simp)).1
    have nab : ¬ ab = W.heap.size := HNAB.out
    have HF : Hid (∀ x0 x1 x2 x3 x4 x5 x6 x7 x8, Nx own W m a nb tp (cutP ((M.kk i).setT i { (M.kk i).t i with st := 3 }) i q) (putE w8 W.heap.size x0 x1 x2 x3 x4 x5 x6 x7 x8)) := fun x0 x1 x2 x3 x4 x5 x6 x7 x8 => R8.putE (by simp) x0 x1 x2 x3 x4 x5 x6 x7 x8
    have HFd : Hid (∀ x0 x1 x2 x3 x4 x5 x6 x7 x8, Nx own W m a nb tp (cutP ((M.kk i).setT i { (M.kk i).t i with st := 3 }) i q) (putE w8 W.heap.size x0 x1 x2 x3 x4 x5 x6 x7 x8).drew) := fun x0 x1 x2 x3 x4 x5 x6 x7 x8 => (HF.out x0 x1 x2 x3 x4 x5 x6 x7 x8).below (Below.drew (Below.refl _ _))
    clear R8 R7 hb8 a00 a01 a02 a10 a11 a12
    go_wp2_with fail
    go_region
    go_wp2_with fail
    refine bodyPost_ret (v := .agg #[.int .i64 4, .int .i64 (N0 : Int), .int .i64 0, .int .i64 T1, .int .u64 (N1 : Int), .string ⟨S1.toArray⟩, .int .i64 0, .int .u64 0, .string ⟨#[]⟩]) (by first | (simp [results, go_sem]; done) | (simp [results, go_sem, e60, e61, e62, e63, e64, e65, e66, e67, e68]; done)) rfl ?_
    rw [HO.out]
    exact .inl ⟨rfl, rfl, HFd.out _ _ _ _ _ _ _ _ _⟩
set_option maxRecDepth 16000 in
set_option maxHeartbeats 8000000 in
theorem call_r_go2 {own : Nat → Nat} {W : World} {m a nb tp : Nat} {M : Mc} (HV : Vm own W m a nb tp M) {i : Nat} (hA : Alive M (some i)) (hi : i < M.th.length) {fb n cp : Nat} (hfr : W.cell? ⟨a, i * 5 + 3, none⟩ = some (.slice (some ⟨fb, 0, none⟩) (n + 1) cp)) (hln : (M.t i).fr.length = n + 1) (x q : Nat) (hx : x ≤ 3) (hq : (M.t i).sk.length = q + 1 + x) (hpc : (M.t i).f.pc < (M.p (M.t i).f.clo).nc) (hfu : ¬ M.fuel = 0) (h6 : ((M.t i).sk[q]?.getD nilV).T = 6) (hb : ((M.t i).sk[q]?.getD nilV).N = 9) (h0 : (((M.t i).sk.drop (q + 1))[0]?.getD nilV).T = 7) (hs : ((M.kk i).t (((M.t i).sk.drop (q + 1))[0]?.getD nilV).N).st = 2) :
    Calls Tryz.prog 90 #[.pointer (some ⟨m, 0, none⟩), i64 i, .pointer (some ⟨a, i * 5, none⟩), .pointer (some ⟨fb, n * 5, none⟩), i64 x] W (OuEnd own W m a nb tp (callP M i x) evV) := by
  obtain ⟨r1, r2, r3, r4, r5, r6, r7⟩ := hA.runs hi
  have hpc9 : (M.t i).f.pc ≤ 65535 := by have := (hA.st.each _ (hA.prc r4)).2.2.2.2; omega
  have hsk := sk_bound hA hi
  have R1 : Rm own W m a nb tp i [(W.heap.size, zEv)] M (W.alloc zEv) := (Rm.start HV).alloc zEv rfl
  obtain ⟨own1, hv1, hN1⟩ := R1.vm
  have HB := burn_f hv1 hA.ou.fuel i
  have HR2 : Hid (∀ w1, Nf own1 (W.alloc zEv) m a nb tp i { M with fuel := M.fuel - 1 } w1 → Rm own W m a nb tp i [(W.heap.size, zEv)] { M with fuel := M.fuel - 1 } w1) := hN1 _
  have hbk : burnP M = ok { M with fuel := M.fuel - 1 } () := if_neg hfu
  rw [hbk] at HB
  have HO0 : Hid (callP M i x = callB { M with fuel := M.fuel - 1 } i x) := callP_eq x hfu
  obtain ⟨fn, hfn⟩ : ∃ fn, fn = (M.t i).sk[q]?.getD nilV := ⟨_, rfl⟩
  have HFN : Hid (fn = (M.t i).sk[q]?.getD nilV) := hfn
  rw [← hfn] at h6 hb
  have hK := hA.fuel (n := M.fuel - 1) (by omega)
  have HK0 : Hid (Alive (M.kk i) (some i)) := hK.setPc (i := i) hi ((M.t i).f.pc + 1) (by show _ ≤ (M.p (M.t i).f.clo).nc; omega)
  have HKL : Hid ((M.kk i).th.length = M.th.length) := by show (Mc.setT _ i _).th.length = _; rw [th_setT]
  clear hK
  clear hfn
  obtain ⟨fT, fN, fS⟩ := fn
  have hfa := Th.f_at (t := M.t i) r2
  rw [hln, Nat.add_sub_cancel] at hfa
  obtain ⟨pc, hpce⟩ : ∃ pc, pc = (M.t i).f.pc := ⟨_, rfl⟩
  have HH : Hid (Vm own W m a nb tp M ∧ Alive M (some i) ∧ W.cell? ⟨a, i * 5 + 3, none⟩ = some (.slice (some ⟨fb, 0, none⟩) (n + 1) cp) ∧ (M.t i).fr.length = n + 1 ∧ (M.t i).sk.length = q + 1 + x ∧ (M.t i).fr[n]? = some (M.t i).f ∧ pc = (M.t i).f.pc) := ⟨HV, hA, hfr, hln, hq, hfa, hpce⟩
  have HKT : Hid (i < (M.kk i).th.length ∧ ((M.kk i).t i).sk = (M.t i).sk ∧ ((M.kk i).t i).fr.length = (M.t i).fr.length) := by
    have e1 : (M.kk i).t i = (M.t i).setF { (M.t i).f with pc := (M.t i).f.pc + 1 } := t_setT hi _
    refine ⟨by show i < (Mc.setT _ i _).th.length; rw [th_setT]; exact hi, by rw [e1]; rfl, by rw [e1]; exact List.length_set⟩
  rw [← hpce] at hpc9
  clear HV hv1 hN1 R1 hbk hfu r1 r2 r3 r4 r5 r6 r7 hpc hA hfr hln hfa hpce
  rw [hq] at hsk
  clear hq
  simp only at h6 hb
  have H6 : Hid (fT = 6) := h6
  have HBN : Hid (fN = 9) := hb
  clear h6 hb
  go_enter Tryz.func90, Tryz.ntmps90
  go_wp2_with fail
  refine HB.mono ?_; rintro e w1 hE
  rcases hE with ⟨_, rfl, hNf⟩ | ⟨h, _⟩ | ⟨h, _⟩
  rotate_left
  · cases h
  · cases h
  have R2 := HR2.out w1 hNf
  obtain ⟨own2, hv2, hN2⟩ := R2.vm
  obtain ⟨sb, scp, s1, s2, s3, s4, s5, sz, s6, s7, s8⟩ := hv2.skE (i := i) hi (k := q) (by show q < (M.t i).sk.length; rw [HH.out.2.2.2.2.1]; omega)
  rw [show (({ M with fuel := M.fuel - 1 } : Mc).t i).sk.length = q + 1 + x from HH.out.2.2.2.2.1] at s1 s2
  rw [show (({ M with fuel := M.fuel - 1 } : Mc).t i).sk[q]?.getD nilV = ⟨fT, fN, fS⟩ from HFN.out.symm] at s6 s7 s8
  simp only at s6 s7 s8
  have hlt2 := hv2.alt
  have f0 : w1.cell? ⟨a, i * 5 + 3, none⟩ = some (.slice (some ⟨fb, 0, none⟩) (n + 1) cp) := R2.rn.frs.trans HH.out.2.2.1
  have hna : ¬ a = fb := (hv2.fna hi f0).1
  have hsbf : ¬ sb = fb := by have := (hv2.fna hi f0).2.2.1; rintro rfl; omega
  obtain ⟨m1, hfb2, m2, fz, m3, f3, m4, m5, m6, f8⟩ := hv2.frame (i := i) hi f0 HH.out.2.2.2.2.2.1
  clear m1 m2 m3 m4 m5 m6
  have R3 := hN2 _ _ (f8 1 (i64 ((M.t i).f.pc + 1)) { (M.t i).f with pc := (M.t i).f.pc + 1 } (by omega) rfl)
  rw [kk_set HH.out.2.2.2.1, ← HH.out.2.2.2.2.2.2] at R3
  have R4 := R3.alloc (vBox fT fN fS) (n := w1.heap.size) (by simp only [size_set])
  rw [← HH.out.2.2.2.2.2.2] at f3
  have fz1 := fz (n * 5 + 1)
  clear fz f8 hN2 hv2 HR2 HB hNf R2 R3 s4 s5 sz
  go_upto_region 7 with fail
  rw [Nat.add_sub_cancel_left]
  have eW : (w1.setCell ⟨fb, n * 5 + 1, none⟩ (.int .i64 ((pc : Int) + 1))).alloc (.cells #[.int .i64 fT, .int .u64 (fN : Int), .string ⟨fS.toArray⟩] 33) = (w1.setCell ⟨fb, n * 5 + 1, none⟩ (i64 (pc + 1))).alloc (vBox fT fN fS) := by rw [show ((pc : Int) + 1) = ((pc + 1 : Nat) : Int) by omega]
  rw [eW]
  have HW4 : Hid (w1.heap.size < ((w1.setCell ⟨fb, n * 5 + 1, none⟩ (i64 (pc + 1))).alloc (vBox fT fN fS)).heap.size) := by show _ < _; simp
  have s1w : ((w1.setCell ⟨fb, n * 5 + 1, none⟩ (i64 (pc + 1))).alloc (vBox fT fN fS)).cell? ⟨a, i * 5 + 2, none⟩ = some (.slice (some ⟨sb, 0, none⟩) (q + 1 + x) scp) := ((below_one (w1.setCell ⟨fb, n * 5 + 1, none⟩ (i64 (pc + 1))) (vBox fT fN fS)).cell (p := ⟨a, i * 5 + 2, none⟩) (by simp only [size_set]; exact hlt2)).trans ((World.cell?_of_block (a := ⟨a, i * 5 + 2, none⟩) (Below.heap_setCell _ _ _ _ hna)).trans s1)
  clear eW s1 s6 s7 s8 f0 f3 fz1 hfb2 s3
  generalize (w1.setCell ⟨fb, n * 5 + 1, none⟩ (i64 (pc + 1))).alloc (vBox fT fN fS) = w4 at *
  obtain ⟨b0, b1, b2, bz⟩ := R4.val (b := w1.heap.size) (T := fT) (N := fN) (S := fS) (by simp)
  obtain ⟨own4, hv4, hN4, hX4⟩ := R4.vmX
  obtain ⟨k0, ek0, hk0, hal, hAV, hsa⟩ := hv4.args HKT.out.1 (q := q) (x := x) (by rw [HKT.out.2.1]; exact HH.out.2.2.2.2.1) s1w
  rw [HKT.out.2.1] at hal hAV
  rw [ek0]
  have HAV : Hid (AV w4.heap.size w4 (.slice (some ⟨sb, k0, none⟩) x x) ((M.t i).sk.drop (q + 1))) := hAV
  have hsl : sb < w4.heap.size := by obtain ⟨_, _, _, h1, h2, _⟩ := hAV; cases h1; exact h2
  clear hAV ek0
  have h6 := H6.out
  subst h6
  have hlt4 := hv4.alt
  have HKA : Hid (Alive (M.kk i) (some i)) := HK0.out
  clear hN4 hX4
  go_wp2_with fail
  go_loopw [14] (fun av wr => ∃ (l : List V) (ab k cap : Nat), av = .slice (some ⟨ab, k, none⟩) l.length cap ∧ l.length ≤ 3 ∧ Hid (AV w4.heap.size wr av l ∧ Below w4.heap.size w4 wr ∧ (∀ j : Nat, l[j]?.getD nilV = ((M.t i).sk.drop (q + 1))[j]?.getD nilV) ∧ ab ≠ a ∧ (ab = sb ∨ w4.heap.size ≤ ab) ∧ (∀ j : Nat, k + l.length * 3 ≤ (q + 1 + x) * 3 ∨ w4.heap.size ≤ ab))) (fun av _ => 10 - lenV av)
  case atStart => exact ⟨(M.t i).sk.drop (q + 1), sb, k0, x, by rw [hal], by omega, HAV.out, Below.refl _ _, fun _ => rfl, hsa, .inl rfl, fun _ => .inl (by rw [hal]; exact hk0)⟩
  case round =>
    obtain ⟨l, ab, k, cap, rfl, hl, HR⟩ := hrel
    by_cases hlt : l.length < 3
    · obtain ⟨av', w', happ, hav', ⟨b', cap', rfl, hge⟩, hbel⟩ := HR.out.1.grow HR.out.2.1.size (by omega) 53
      have dl : decide ((l.length : Int) < (3 : Int)) = true := decide_eq_true (by omega)
      have HREL : Hid (AV w4.heap.size w' (.slice (some ⟨b', 0, none⟩) (l.length + 1) cap') (l ++ [nilV]) ∧ Below w4.heap.size w4 w' ∧ (∀ j : Nat, (l ++ [nilV])[j]?.getD nilV = ((M.t i).sk.drop (q + 1))[j]?.getD nilV) ∧ b' ≠ a ∧ (b' = sb ∨ w4.heap.size ≤ b') ∧ (∀ j : Nat, 0 + (l ++ [nilV]).length * 3 ≤ (q + 1 + x) * 3 ∨ w4.heap.size ≤ b')) := by
        obtain ⟨_, h2, h3, h4, h5, h6⟩ := HR.out
        refine ⟨hav', h2.trans hbel, ?_, by omega, .inr hge, fun _ => .inr hge⟩
        intro j
        rw [← h3 j]
        by_cases cj : j < l.length
        · rw [List.getElem?_append_left cj]
        · by_cases ce : j = l.length
          · subst ce
            rw [List.getElem?_append_right (Nat.le_refl _), Nat.sub_self, List.getElem?_eq_none (Nat.le_refl _)]
            rfl
          · rw [List.getElem?_eq_none (by simp; omega), List.getElem?_eq_none (by omega)]
      have hll : (l ++ [nilV]).length = l.length + 1 := by simp
      have HLL : Hid ((l ++ [nilV]).length = l.length + 1) := hll
      clear hav' hbel hll HAV HR R4 hv4 HH HFN HKT HKA HK0 HO0
      go_wp2_with (at_builtin; refine wpList_append_eq rfl _ _ 53 rfl _ _ _ _ rfl rfl happ ?_)
      go_roundw
      case rel => exact ⟨l ++ [nilV], b', 0, cap', by rw [HLL.out], by rw [HLL.out]; omega, HREL⟩
      case measure => simp [lenV]; omega
    have hl3 : l.length = 3 := by omega
    have dl : decide ((l.length : Int) < (3 : Int)) = false := decide_eq_false (by omega)
    have hbw := HR.out.2.1
    have hlsz := hbw.size
    have b0 := (hbw.cell (p := ⟨w1.heap.size, 0, none⟩) HW4.out).trans b0
    have b1 := (hbw.cell (p := ⟨w1.heap.size, 1, none⟩) HW4.out).trans b1
    have b2 := (hbw.cell (p := ⟨w1.heap.size, 2, none⟩) HW4.out).trans b2
    have hw1r : w1.heap.size < wr.heap.size := Nat.lt_of_lt_of_le HW4.out hlsz
    have R5 := R4.below hbw
    have R6 := (R5.alloc (vBox 0 0 []) rfl).alloc (vBox 0 0 []) (n := wr.heap.size + 1) (by simp)
    obtain ⟨A0r, hab⟩ := HR.out.1.arg (j := 0) (by omega)
    obtain ⟨A1r, _⟩ := HR.out.1.arg (j := 1) (by omega)
    rw [HR.out.2.2.1 0, Nat.zero_mul, Nat.add_zero] at A0r
    rw [HR.out.2.2.1 1, Nat.one_mul] at A1r
    have hA := HH.out.2.1
    have vargs : ∀ v ∈ (M.t i).sk.drop (q + 1), okV M v := fun v hv => hA.skV hi v (List.mem_of_mem_drop hv)
    have va0 : okV (M.kk i) (((M.t i).sk.drop (q + 1))[0]?.getD nilV) := (arg_okV vargs 0).mono (Nat.le_refl _) (Nat.le_refl _) (by rw [HKL.out]; exact Nat.le_refl _)
    have va1 : okV (M.kk i) (((M.t i).sk.drop (q + 1))[1]?.getD nilV) := (arg_okV vargs 1).mono (Nat.le_refl _) (Nat.le_refl _) (by rw [HKL.out]; exact Nat.le_refl _)
    have hOB : Below wr.heap.size wr (box2 wr) := below_two (below_one _ _) (below_one _ _)
    have A0 : Arg (box2 wr) ab k (((M.t i).sk.drop (q + 1))[0]?.getD nilV) := by
      obtain ⟨x0, x1, x2⟩ := A0r
      exact ⟨(hOB.cell (p := ⟨ab, k, none⟩) hab).trans x0, (hOB.cell (p := ⟨ab, k + 1, none⟩) hab).trans x1, (hOB.cell (p := ⟨ab, k + 2, none⟩) hab).trans x2⟩
    have A1 : Arg (box2 wr) ab (k + 3) (((M.t i).sk.drop (q + 1))[1]?.getD nilV) := by
      obtain ⟨x0, x1, x2⟩ := A1r
      exact ⟨(hOB.cell (p := ⟨ab, k + 3, none⟩) hab).trans x0, (hOB.cell (p := ⟨ab, k + 3 + 1, none⟩) hab).trans x1, (hOB.cell (p := ⟨ab, k + 3 + 2, none⟩) hab).trans x2⟩
    have hat := arr_at ab k cap
    have hab2 : ab < (box2 wr).heap.size := by have := hOB.size; omega
    have habr := hab
    have HO0' : Hid (callP M i x = (if (((M.t i).sk.drop (q + 1))[0]?.getD nilV).T ≠ 7 then thr (M.kk i) noEv (str mCo) else if ((M.kk i).t (((M.t i).sk.drop (q + 1))[0]?.getD nilV).N).st = 1 ∨ ((M.kk i).t (((M.t i).sk.drop (q + 1))[0]?.getD nilV).N).st = 2 then ok (cutP ((M.kk i).setT i { (M.kk i).t i with st := 3 }) i q) ⟨4, (((M.t i).sk.drop (q + 1))[0]?.getD nilV).N, 0, (((M.t i).sk.drop (q + 1))[1]?.getD nilV), nilV⟩ else ok (pushP (cutP (M.kk i) i q) i [boolV false, str (stName ((M.kk i).t (((M.t i).sk.drop (q + 1))[0]?.getD nilV).N).st)]) noEv)) := by
      show _ = _
      rw [HO0.out]
      have e1 : (({ M with fuel := M.fuel - 1 } : Mc).t i).sk.length - x - 1 = q := by show (M.t i).sk.length - x - 1 = q; rw [HH.out.2.2.2.2.1]; omega
      have e2 : ((({ M with fuel := M.fuel - 1 } : Mc).t i).sk[q]?.getD nilV) = ⟨6, fN, fS⟩ := HFN.out.symm
      unfold callB
      simp only
      rw [e1, e2, HBN.out]
      rfl
    have H0 : Hid ((((M.t i).sk.drop (q + 1))[0]?.getD nilV).T = 7) := h0
    clear h0
    have HS : Hid (((M.kk i).t (((M.t i).sk.drop (q + 1))[0]?.getD nilV).N).st = 2) := hs
    clear hs
    obtain ⟨v0, hv0⟩ : ∃ v, v = (((M.t i).sk.drop (q + 1))[0]?.getD nilV) := ⟨_, rfl⟩
    obtain ⟨v1, hv1⟩ : ∃ v, v = (((M.t i).sk.drop (q + 1))[1]?.getD nilV) := ⟨_, rfl⟩
    rw [← hv0] at A0r va0 HO0' H0 HS
    rw [← hv1] at A1r va1 HO0'
    clear hv0 hv1
    obtain ⟨T0, N0, S0⟩ := v0
    obtain ⟨T1, N1, S1⟩ := v1
    clear A0 A1
    obtain ⟨a00, a01, a02⟩ := A0r
    obtain ⟨a10, a11, a12⟩ := A1r
    simp only at a00 a01 a02 a10 a11 a12
    have haltr : a < wr.heap.size := by omega
    have hWr : W.heap.size < wr.heap.size := (R5.rn.box (b := W.heap.size) (o := zEv) (by simp)).2.2.1
    have HWR : Hid (W.heap.size < wr.heap.size) := hWr
    have HT7 : Hid (((M.kk i).t i).sk.length = q + 1 + x ∧ i < (M.kk i).th.length) := ⟨by rw [HKT.out.2.1]; exact HH.out.2.2.2.2.1, HKT.out.1⟩
    have hfN := HBN.out
    subst hfN
    obtain ⟨own5, hv5, _⟩ := R5.vm
    obtain ⟨t9, t5⟩ := hv5.c9V
    obtain ⟨_, _, qm⟩ := hv5.cellM (Below.refl _ _)
    have haba : ab ≠ a := HR.out.2.2.2.1
    have HNAB : Hid (¬ ab = W.heap.size) := by
      show ¬ ab = W.heap.size
      rcases HR.out.2.2.2.2.1 with h | h
      · intro e
        obtain ⟨own9, _, g2, _, g4, _⟩ := R4.rn
        obtain ⟨b9, cp9, u1, _, _, u4, _⟩ := g2.skAll HKT.out.1 (by rw [HKT.out.2.1, HH.out.2.2.2.2.1]; omega)
        rw [s1w] at u1
        injection u1 with u1
        injection u1 with u1
        injection u1 with u1
        injection u1 with u1
        have g5 := (g4 (W.heap.size, zEv) (by simp)).2.1
        simp only at g5
        rw [← e, h, u1, u4] at g5
        omega
      · have h2 := (R4.rn.box (b := W.heap.size) (o := zEv) (by simp)).2.2.1
        omega
    have t7 : T0 = 7 := H0.out
    subst t7
    have HO : Hid (callP M i x = ok (cutP ((M.kk i).setT i { (M.kk i).t i with st := 3 }) i q) ⟨4, N0, 0, ⟨T1, N1, S1⟩, nilV⟩) := by rw [HO0'.out, if_neg (by simp), if_pos (.inr HS.out)]; rfl
    have hlt7 : N0 < (M.kk i).th.length := va0.co_lt rfl
    have hs7 := hv5.stE hlt7
    rw [show ((M.kk i).t N0).st = 2 from HS.out] at hs7
    have hw2 : IntKind.i64.wrap (N0 : Int) = (N0 : Int) := IntWalk.i64_in _ ⟨by omega, by omega⟩
    have R6q0 : Hid (∀ nq, Rm own W m a nb tp i [(wr.heap.size + 1, vBox 0 0 []), (wr.heap.size, vBox 0 0 []), (w1.heap.size, vBox 6 9 fS), (W.heap.size, zEv)] (M.kk i) (((wr.alloc (.cells #[.int .i64 0, .int .u64 0, .string ⟨#[]⟩] 33)).alloc (.cells #[.int .i64 0, .int .u64 0, .string ⟨#[]⟩] 33)).drewN nq)) := fun nq => R6.below (below_drewN (Below.refl _ _) nq)
    have HBLK : Hid (∀ nq, (((wr.alloc (.cells #[.int .i64 0, .int .u64 0, .string ⟨#[]⟩] 33)).alloc (.cells #[.int .i64 0, .int .u64 0, .string ⟨#[]⟩] 33)).drewN nq).heap[ab]? = wr.heap[ab]?) := fun nq => (below_drewN hOB nq).block ab habr
    obtain ⟨tl, hTL⟩ : ∃ tl, tl = (M.kk i).th.length := ⟨_, rfl⟩
    rw [← hTL] at hlt7 t9 t5
    have hlt' : (N0 : Int) < (tl : Int) := by omega
    clear hTL
    clear R6 hv4 hv5 va0 va1 vargs hA hOB HR HAV HH HFN HKT HKA HK0 HO0 HKL hbw HO0' R4 R5
    clear hsl hsa hk0 hal s1w hlt4 hlsz hpc9 hna hsbf
    go_wp2_with fail
    go_quiet (fail)
    have hblk0 := HBLK.out nq
    have R6q := R6q0.out nq
    clear HBLK R6q0
    go_upto_region 33 with fail
    generalize ((wr.alloc (.cells #[.int .i64 0, .int .u64 0, .string ⟨#[]⟩] 33)).alloc (.cells #[.int .i64 0, .int .u64 0, .string ⟨#[]⟩] 33)).drewN nq = w6 at *
    have hblk : w6.heap[ab]? = wr.heap[ab]? := hblk0
    obtain ⟨own6, hv6, hN6, hX6⟩ := R6q.vmX
    have i1 := hv6.stE HT7.out.2
    have i2 : w6.frozen? ⟨a, i * 5, none⟩ = false := by obtain ⟨vals, L, H⟩ := hv6; exact H.az _
    have ialt := hv6.alt
    have R7 : Rn own W m a nb tp i _ _ ((M.kk i).setT i { (M.kk i).t i with st := 3 }) (w6.setCell ⟨a, i * 5, none⟩ (.int .i64 3)) := hX6 _ _ (hv6.setSt HT7.out.2 3)
    have hb7 : (w6.setCell ⟨a, i * 5, none⟩ (.int .i64 3)).heap[ab]? = wr.heap[ab]? := (Below.heap_setCell _ _ _ _ haba).trans hblk
    clear hv6 hN6 hX6 R6q hblk
    go_upto_region 34 with fail
    clear i1 i2
    generalize w6.setCell ⟨a, i * 5, none⟩ (.int .i64 3) = w7 at *
    obtain ⟨own7, hv7, _, _⟩ := R7.vm
    have hi7 : i < ((M.kk i).setT i { (M.kk i).t i with st := 3 }).th.length := by rw [th_setT]; exact HT7.out.2
    have hl7 : (((M.kk i).setT i { (M.kk i).t i with st := 3 }).t i).sk.length = q + 1 + x := by rw [t_setT HT7.out.2]; exact HT7.out.1
    obtain ⟨ad7, scp7, t1, t2, t3, _⟩ := hv7.sk hi7
    rw [hl7] at t1 t2
    have halt7 := hv7.alt
    have hq7 : q ≤ scp7 := by omega
    have R8 := R7.cutSk hi7 t1 q (by rw [hl7]; omega)
    have hb8 : (w7.setCell ⟨a, i * 5 + 2, none⟩ (.slice ad7 q scp7)).heap[ab]? = wr.heap[ab]? := (Below.heap_setCell _ _ _ _ haba).trans hb7
    clear hv7 hb7
    go_upto_region 35 with fail
    clear t1 t3
    generalize w7.setCell ⟨a, i * 5 + 2, none⟩ (.slice ad7 q scp7) = w8 at *
    have habw : ab < w8.heap.size := by rcases Nat.lt_or_ge ab w8.heap.size with h | h; exact h; rw [Array.getElem?_eq_none h, Array.getElem?_eq_getElem habr] at hb8; cases hb8
    have x00 := (World.cell?_of_block (a := ⟨ab, k, none⟩) hb8).trans a00
    have x01 := (World.cell?_of_block (a := ⟨ab, k + 1, none⟩) hb8).trans a01
    have x02 := (World.cell?_of_block (a := ⟨ab, k + 2, none⟩) hb8).trans a02
    have x10 := (World.cell?_of_block (a := ⟨ab, k + 3, none⟩) hb8).trans a10
    have x11 := (World.cell?_of_block (a := ⟨ab, k + 3 + 1, none⟩) hb8).trans a11
    have x12 := (World.cell?_of_block (a := ⟨ab, k + 3 + 2, none⟩) hb8).trans a12
    obtain ⟨e60, e61, e62, e63, e64, e65, e66, e67, e68, z6⟩ := cells9 (R8.box (b := W.heap.size) (o := zEv) (by simp)).1
    have nab : ¬ ab = W.heap.size := HNAB.out
    have HF : Hid (∀ x0 x1 x2 x3 x4 x5 x6 x7 x8, Nx own W m a nb tp (cutP ((M.kk i).setT i { (M.kk i).t i with st := 3 }) i q) (putE w8 W.heap.size x0 x1 x2 x3 x4 x5 x6 x7 x8)) := fun x0 x1 x2 x3 x4 x5 x6 x7 x8 => R8.putE (by simp) x0 x1 x2 x3 x4 x5 x6 x7 x8
    have HFd : Hid (∀ x0 x1 x2 x3 x4 x5 x6 x7 x8, Nx own W m a nb tp (cutP ((M.kk i).setT i { (M.kk i).t i with st := 3 }) i q) (putE w8 W.heap.size x0 x1 x2 x3 x4 x5 x6 x7 x8).drew) := fun x0 x1 x2 x3 x4 x5 x6 x7 x8 => (HF.out x0 x1 x2 x3 x4 x5 x6 x7 x8).below (Below.drew (Below.refl _ _))
    clear R8 R7 hb8 a00 a01 a02 a10 a11 a12
    go_wp2_with fail
    go_region
    go_wp2_with fail
    refine bodyPost_ret (v := .agg #[.int .i64 4, .int .i64 (N0 : Int), .int .i64 0, .int .i64 T1, .int .u64 (N1 : Int), .string ⟨S1.toArray⟩, .int .i64 0, .int .u64 0, .string ⟨#[]⟩]) (by first | (simp [results, go_sem]; done) | (simp [results, go_sem, e60, e61, e62, e63, e64, e65, e66, e67, e68]; done)) rfl ?_
    rw [HO.out]
    exact .inl ⟨rfl, rfl, HFd.out _ _ _ _ _ _ _ _ _⟩
end Go.Proofs.Qxb6500293aGreatRR
