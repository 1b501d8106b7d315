/-
  call walked: the builtins that answer at once.
-/
import Derived.Test.Qxb6500293aGreatRRY38
import Derived.Test.Qxb6500293aGreatRRY35
namespace Go.Proofs.Qxb6500293aGreatRR
open Go.RowKit
open Ieee (double)
set_option linter.unusedVariables false
set_option linter.unusedSimpArgs false

set_option maxRecDepth 16000 in
set_option maxHeartbeats 8000000 in
theorem call_b7 {own : Nat → Nat} {W : World} {m a nb tp : Nat} {M : Mc} (HV : Vm own W m a nb tp M) {i : Nat} (hA : Alive M (some i)) (hi : i < M.th.length) {fb n cp : Nat} (hfr : W.cell? ⟨a, i * 5 + 3, none⟩ = some (.slice (some ⟨fb, 0, none⟩) (n + 1) cp)) (hln : (M.t i).fr.length = n + 1) (x q : Nat) (hx : x ≤ 3) (hq : (M.t i).sk.length = q + 1 + x) (hpc : (M.t i).f.pc < (M.p (M.t i).f.clo).nc) (hfu : ¬ M.fuel = 0) (h6 : ((M.t i).sk[q]?.getD nilV).T = 6) (hb : ((M.t i).sk[q]?.getD nilV).N = 7) :
    Calls Tryz.prog 90 #[.pointer (some ⟨m, 0, none⟩), i64 i, .pointer (some ⟨a, i * 5, none⟩), .pointer (some ⟨fb, n * 5, none⟩), i64 x] W (OuEnd own W m a nb tp (callP M i x) evV) := by
  obtain ⟨r1, r2, r3, r4, r5, r6, r7⟩ := hA.runs hi
  have hpc9 : (M.t i).f.pc ≤ 65535 := by have := (hA.st.each _ (hA.prc r4)).2.2.2.2; omega
  have hsk := sk_bound hA hi
  have R1 : Rm own W m a nb tp i [(W.heap.size, zEv)] M (W.alloc zEv) := (Rm.start HV).alloc zEv rfl
  obtain ⟨own1, hv1, hN1⟩ := R1.vm
  have HB := burn_f hv1 hA.ou.fuel i
  have HR2 : Hid (∀ w1, Nf own1 (W.alloc zEv) m a nb tp i { M with fuel := M.fuel - 1 } w1 → Rm own W m a nb tp i [(W.heap.size, zEv)] { M with fuel := M.fuel - 1 } w1) := hN1 _
  have hbk : burnP M = ok { M with fuel := M.fuel - 1 } () := if_neg hfu
  rw [hbk] at HB
  have HO0 : Hid (callP M i x = callB { M with fuel := M.fuel - 1 } i x) := callP_eq x hfu
  obtain ⟨fn, hfn⟩ : ∃ fn, fn = (M.t i).sk[q]?.getD nilV := ⟨_, rfl⟩
  have HFN : Hid (fn = (M.t i).sk[q]?.getD nilV) := hfn
  rw [← hfn] at h6 hb
  have hK := hA.fuel (n := M.fuel - 1) (by omega)
  have HK0 : Hid (Alive (M.kk i) (some i)) := hK.setPc (i := i) hi ((M.t i).f.pc + 1) (by show _ ≤ (M.p (M.t i).f.clo).nc; omega)
  have HKL : Hid ((M.kk i).th.length = M.th.length) := by show (Mc.setT _ i _).th.length = _; rw [th_setT]
  clear hK
  clear hfn
  obtain ⟨fT, fN, fS⟩ := fn
  have hfa := Th.f_at (t := M.t i) r2
  rw [hln, Nat.add_sub_cancel] at hfa
  obtain ⟨pc, hpce⟩ : ∃ pc, pc = (M.t i).f.pc := ⟨_, rfl⟩
  have HH : Hid (Vm own W m a nb tp M ∧ Alive M (some i) ∧ W.cell? ⟨a, i * 5 + 3, none⟩ = some (.slice (some ⟨fb, 0, none⟩) (n + 1) cp) ∧ (M.t i).fr.length = n + 1 ∧ (M.t i).sk.length = q + 1 + x ∧ (M.t i).fr[n]? = some (M.t i).f ∧ pc = (M.t i).f.pc) := ⟨HV, hA, hfr, hln, hq, hfa, hpce⟩
  have HKT : Hid (i < (M.kk i).th.length ∧ ((M.kk i).t i).sk = (M.t i).sk ∧ ((M.kk i).t i).fr.length = (M.t i).fr.length) := by
    have e1 : (M.kk i).t i = (M.t i).setF { (M.t i).f with pc := (M.t i).f.pc + 1 } := t_setT hi _
    refine ⟨by show i < (Mc.setT _ i _).th.length; rw [th_setT]; exact hi, by rw [e1]; rfl, by rw [e1]; exact List.length_set⟩
  rw [← hpce] at hpc9
  clear HV hv1 hN1 R1 hbk hfu r1 r2 r3 r4 r5 r6 r7 hpc hA hfr hln hfa hpce
  rw [hq] at hsk
  clear hq
  simp only at h6 hb
  have H6 : Hid (fT = 6) := h6
  have HBN : Hid (fN = 7) := hb
  clear h6 hb
  go_enter Tryz.func90, Tryz.ntmps90
  go_wp2_with fail
  refine HB.mono ?_; rintro e w1 hE
  rcases hE with ⟨_, rfl, hNf⟩ | ⟨h, _⟩ | ⟨h, _⟩
  rotate_left
  · cases h
  · cases h
  have R2 := HR2.out w1 hNf
  obtain ⟨own2, hv2, hN2⟩ := R2.vm
  obtain ⟨sb, scp, s1, s2, s3, s4, s5, sz, s6, s7, s8⟩ := hv2.skE (i := i) hi (k := q) (by show q < (M.t i).sk.length; rw [HH.out.2.2.2.2.1]; omega)
  rw [show (({ M with fuel := M.fuel - 1 } : Mc).t i).sk.length = q + 1 + x from HH.out.2.2.2.2.1] at s1 s2
  rw [show (({ M with fuel := M.fuel - 1 } : Mc).t i).sk[q]?.getD nilV = ⟨fT, fN, fS⟩ from HFN.out.symm] at s6 s7 s8
  simp only at s6 s7 s8
  have hlt2 := hv2.alt
  have f0 : w1.cell? ⟨a, i * 5 + 3, none⟩ = some (.slice (some ⟨fb, 0, none⟩) (n + 1) cp) := R2.rn.frs.trans HH.out.2.2.1
  have hna : ¬ a = fb := (hv2.fna hi f0).1
  have hsbf : ¬ sb = fb := by have := (hv2.fna hi f0).2.2.1; rintro rfl; omega
  obtain ⟨_, hfb2, _, fz, _, f3, _, _, _, f8⟩ := hv2.frame (i := i) hi f0 HH.out.2.2.2.2.2.1
  have R3 := hN2 _ _ (f8 1 (i64 ((M.t i).f.pc + 1)) { (M.t i).f with pc := (M.t i).f.pc + 1 } (by omega) rfl)
  rw [kk_set HH.out.2.2.2.1, ← HH.out.2.2.2.2.2.2] at R3
  have R4 := R3.alloc (vBox fT fN fS) (n := w1.heap.size) (by simp only [size_set])
  rw [← HH.out.2.2.2.2.2.2] at f3
  have fz1 := fz (n * 5 + 1)
  clear fz f8 hN2 hv2 HR2 HB hNf R2 R3 s4 s5 sz
  go_upto_region 7 with fail
  rw [Nat.add_sub_cancel_left]
  have eW : (w1.setCell ⟨fb, n * 5 + 1, none⟩ (.int .i64 ((pc : Int) + 1))).alloc (.cells #[.int .i64 fT, .int .u64 (fN : Int), .string ⟨fS.toArray⟩] 33) = (w1.setCell ⟨fb, n * 5 + 1, none⟩ (i64 (pc + 1))).alloc (vBox fT fN fS) := by rw [show ((pc : Int) + 1) = ((pc + 1 : Nat) : Int) by omega]
  rw [eW]
  have HW4 : Hid (w1.heap.size < ((w1.setCell ⟨fb, n * 5 + 1, none⟩ (i64 (pc + 1))).alloc (vBox fT fN fS)).heap.size) := by show _ < _; simp
  have s1w : ((w1.setCell ⟨fb, n * 5 + 1, none⟩ (i64 (pc + 1))).alloc (vBox fT fN fS)).cell? ⟨a, i * 5 + 2, none⟩ = some (.slice (some ⟨sb, 0, none⟩) (q + 1 + x) scp) := ((below_one (w1.setCell ⟨fb, n * 5 + 1, none⟩ (i64 (pc + 1))) (vBox fT fN fS)).cell (p := ⟨a, i * 5 + 2, none⟩) (by simp only [size_set]; exact hlt2)).trans ((World.cell?_of_block (a := ⟨a, i * 5 + 2, none⟩) (Below.heap_setCell _ _ _ _ hna)).trans s1)
  clear eW s1 s6 s7 s8 f0 f3 fz1 hfb2 s3
  generalize (w1.setCell ⟨fb, n * 5 + 1, none⟩ (i64 (pc + 1))).alloc (vBox fT fN fS) = w4 at *
  obtain ⟨b0, b1, b2, bz⟩ := R4.val (b := w1.heap.size) (T := fT) (N := fN) (S := fS) (by simp)
  obtain ⟨own4, hv4, hN4, hX4⟩ := R4.vmX
  obtain ⟨k0, ek0, hk0, hal, hAV, hsa⟩ := hv4.args HKT.out.1 (q := q) (x := x) (by rw [HKT.out.2.1]; exact HH.out.2.2.2.2.1) s1w
  rw [HKT.out.2.1] at hal hAV
  rw [ek0]
  have HAV : Hid (AV w4.heap.size w4 (.slice (some ⟨sb, k0, none⟩) x x) ((M.t i).sk.drop (q + 1))) := hAV
  have hsl : sb < w4.heap.size := by obtain ⟨_, _, _, h1, h2, _⟩ := hAV; cases h1; exact h2
  clear hAV ek0
  have h6 := H6.out
  subst h6
  have hlt4 := hv4.alt
  have HKA : Hid (Alive (M.kk i) (some i)) := HK0.out
  clear hN4 hX4
  go_wp2_with fail
  go_loopw [14] (fun av wr => ∃ (l : List V) (ab k cap : Nat), av = .slice (some ⟨ab, k, none⟩) l.length cap ∧ l.length ≤ 3 ∧ Hid (AV w4.heap.size wr av l ∧ Below w4.heap.size w4 wr ∧ (∀ j : Nat, l[j]?.getD nilV = ((M.t i).sk.drop (q + 1))[j]?.getD nilV) ∧ ab ≠ a ∧ (ab = sb ∨ w4.heap.size ≤ ab) ∧ (∀ j : Nat, k + l.length * 3 ≤ (q + 1 + x) * 3 ∨ w4.heap.size ≤ ab))) (fun av _ => 10 - lenV av)
  case atStart => exact ⟨(M.t i).sk.drop (q + 1), sb, k0, x, by rw [hal], by omega, HAV.out, Below.refl _ _, fun _ => rfl, hsa, .inl rfl, fun _ => .inl (by rw [hal]; exact hk0)⟩
  case round =>
    obtain ⟨l, ab, k, cap, rfl, hl, HR⟩ := hrel
    by_cases hlt : l.length < 3
    · obtain ⟨av', w', happ, hav', ⟨b', cap', rfl, hge⟩, hbel⟩ := HR.out.1.grow HR.out.2.1.size (by omega) 53
      have dl : decide ((l.length : Int) < (3 : Int)) = true := decide_eq_true (by omega)
      have HREL : Hid (AV w4.heap.size w' (.slice (some ⟨b', 0, none⟩) (l.length + 1) cap') (l ++ [nilV]) ∧ Below w4.heap.size w4 w' ∧ (∀ j : Nat, (l ++ [nilV])[j]?.getD nilV = ((M.t i).sk.drop (q + 1))[j]?.getD nilV) ∧ b' ≠ a ∧ (b' = sb ∨ w4.heap.size ≤ b') ∧ (∀ j : Nat, 0 + (l ++ [nilV]).length * 3 ≤ (q + 1 + x) * 3 ∨ w4.heap.size ≤ b')) := by
        obtain ⟨_, h2, h3, h4, h5, h6⟩ := HR.out
        refine ⟨hav', h2.trans hbel, ?_, by omega, .inr hge, fun _ => .inr hge⟩
        intro j
        rw [← h3 j]
        by_cases cj : j < l.length
        · rw [List.getElem?_append_left cj]
        · by_cases ce : j = l.length
          · subst ce
            rw [List.getElem?_append_right (Nat.le_refl _), Nat.sub_self, List.getElem?_eq_none (Nat.le_refl _)]
            rfl
          · rw [List.getElem?_eq_none (by simp; omega), List.getElem?_eq_none (by omega)]
      have hll : (l ++ [nilV]).length = l.length + 1 := by simp
      have HLL : Hid ((l ++ [nilV]).length = l.length + 1) := hll
      clear hav' hbel hll HAV HR R4 hv4 HH HFN HKT HKA HK0 HO0
      go_wp2_with (at_builtin; refine wpList_append_eq rfl _ _ 53 rfl _ _ _ _ rfl rfl happ ?_)
      go_roundw
      case rel => exact ⟨l ++ [nilV], b', 0, cap', by rw [HLL.out], by rw [HLL.out]; omega, HREL⟩
      case measure => simp [lenV]; omega
    have hl3 : l.length = 3 := by omega
    have dl : decide ((l.length : Int) < (3 : Int)) = false := decide_eq_false (by omega)
    have hbw := HR.out.2.1
    have hlsz := hbw.size
    have b0 := (hbw.cell (p := ⟨w1.heap.size, 0, none⟩) HW4.out).trans b0
    have b1 := (hbw.cell (p := ⟨w1.heap.size, 1, none⟩) HW4.out).trans b1
    have b2 := (hbw.cell (p := ⟨w1.heap.size, 2, none⟩) HW4.out).trans b2
    have hw1r : w1.heap.size < wr.heap.size := Nat.lt_of_lt_of_le HW4.out hlsz
    have R5 := R4.below hbw
    have R6 := (R5.alloc (vBox 0 0 []) rfl).alloc (vBox 0 0 []) (n := wr.heap.size + 1) (by simp)
    obtain ⟨A0r, hab⟩ := HR.out.1.arg (j := 0) (by omega)
    obtain ⟨A1r, _⟩ := HR.out.1.arg (j := 1) (by omega)
    rw [HR.out.2.2.1 0, Nat.zero_mul, Nat.add_zero] at A0r
    rw [HR.out.2.2.1 1, Nat.one_mul] at A1r
    have hA := HH.out.2.1
    have vargs : ∀ v ∈ (M.t i).sk.drop (q + 1), okV M v := fun v hv => hA.skV hi v (List.mem_of_mem_drop hv)
    have va0 : okV (M.kk i) (((M.t i).sk.drop (q + 1))[0]?.getD nilV) := (arg_okV vargs 0).mono (Nat.le_refl _) (Nat.le_refl _) (by rw [HKL.out]; exact Nat.le_refl _)
    have va1 : okV (M.kk i) (((M.t i).sk.drop (q + 1))[1]?.getD nilV) := (arg_okV vargs 1).mono (Nat.le_refl _) (Nat.le_refl _) (by rw [HKL.out]; exact Nat.le_refl _)
    have hOB : Below wr.heap.size wr (box2 wr) := below_two (below_one _ _) (below_one _ _)
    have A0 : Arg (box2 wr) ab k (((M.t i).sk.drop (q + 1))[0]?.getD nilV) := by
      obtain ⟨x0, x1, x2⟩ := A0r
      exact ⟨(hOB.cell (p := ⟨ab, k, none⟩) hab).trans x0, (hOB.cell (p := ⟨ab, k + 1, none⟩) hab).trans x1, (hOB.cell (p := ⟨ab, k + 2, none⟩) hab).trans x2⟩
    have A1 : Arg (box2 wr) ab (k + 3) (((M.t i).sk.drop (q + 1))[1]?.getD nilV) := by
      obtain ⟨x0, x1, x2⟩ := A1r
      exact ⟨(hOB.cell (p := ⟨ab, k + 3, none⟩) hab).trans x0, (hOB.cell (p := ⟨ab, k + 3 + 1, none⟩) hab).trans x1, (hOB.cell (p := ⟨ab, k + 3 + 2, none⟩) hab).trans x2⟩
    have hat := arr_at ab k cap
    have hab2 : ab < (box2 wr).heap.size := by have := hOB.size; omega
    have habr := hab
    have HO1 : Hid (callP M i x = (builtP (M.kk i) 7 (((M.t i).sk.drop (q + 1))[0]?.getD nilV) (((M.t i).sk.drop (q + 1))[1]?.getD nilV)).then noEv fun M r => ok (pushP (cutP M i q) i [r.1, r.2]) noEv) := by
      show _ = _
      rw [HO0.out]
      have e1 : (({ M with fuel := M.fuel - 1 } : Mc).t i).sk.length - x - 1 = q := by show (M.t i).sk.length - x - 1 = q; rw [HH.out.2.2.2.2.1]; omega
      have e2 : ((({ M with fuel := M.fuel - 1 } : Mc).t i).sk[q]?.getD nilV) = ⟨6, fN, fS⟩ := HFN.out.symm
      unfold callB
      simp only
      rw [e1, e2, HBN.out]
      rfl
    have hBO := built_keeps HKA.out HKT.out.1 7 va0 va1
    obtain ⟨own6, hv6, hN6, ho6⟩ := R6.vmO
    have HBI : Calls Tryz.prog 101 #[.pointer (some ⟨m, 0, none⟩), .pointer (some ⟨ab, k, none⟩)] (box2 wr) (OuEf own6 (box2 wr) m a nb tp i (builtP (M.kk i) 7 (((M.t i).sk.drop (q + 1))[0]?.getD nilV) (((M.t i).sk.drop (q + 1))[1]?.getD nilV)) valR) := b_next hv6 i hab2 A0 A1 (fun h => by have := va0.four h; have := HKA.out.tb12; omega) va1.ok
    have hst : (builtP (M.kk i) 7 (((M.t i).sk.drop (q + 1))[0]?.getD nilV) (((M.t i).sk.drop (q + 1))[1]?.getD nilV)).k = 0 ∨ _ := hBO.k
    obtain ⟨o, ho⟩ : ∃ o, o = builtP (M.kk i) 7 (((M.t i).sk.drop (q + 1))[0]?.getD nilV) (((M.t i).sk.drop (q + 1))[1]?.getD nilV) := ⟨_, rfl⟩
    rw [← ho] at HO1 hBO HBI hst
    have HT7 : Hid ((o.M.t i).sk.length = q + 1 + x ∧ i < o.M.th.length) := ⟨by rw [hBO.t, HKT.out.2.1]; exact HH.out.2.2.2.2.1, by have := hBO.th; have := HKT.out.1; omega⟩
    have HOU : Hid (∀ e w', OuEf own6 (box2 wr) m a nb tp i o valR e w' → OuEf own W m a nb tp i o valR e w') := fun e w' h => ho6 h
    have HN6 : Hid (∀ M2 w2, Nf own6 (box2 wr) m a nb tp i M2 w2 → Rm own W m a nb tp i [(wr.heap.size + 1, vBox 0 0 []), (wr.heap.size, vBox 0 0 []), (w1.heap.size, vBox 6 fN fS), (W.heap.size, zEv)] M2 w2) := hN6
    have hWr : W.heap.size < wr.heap.size := (R5.rn.box (b := W.heap.size) (o := zEv) (by simp)).2.2.1
    have hfN := HBN.out
    subst hfN
    obtain ⟨ok', oM, ⟨⟨rT, rN, rS⟩, ⟨sT, sN, sS⟩⟩, ov, oe⟩ := o
    have HWR : Hid (W.heap.size < wr.heap.size) := hWr
    clear ho hBO hst hv6 hN6 ho6 R6 R5 R4 hv4 A0 A1 A0r A1r va0 va1 vargs hA hOB HR HAV HH HFN HKT HKA HK0 HO0 HKL hbw
    clear hsl hsa hk0 hal s1w hlt4 hlsz hpc9 hna hsbf
    go_wp2_with fail
    refine HBI.mono ?_; rintro e w7 hE
    have HE7 : Hid (OuEf own W m a nb tp i ⟨ok', oM, ⟨⟨rT, rN, rS⟩, ⟨sT, sN, sS⟩⟩, ov, oe⟩ valR e w7) := HOU.out _ _ hE
    rcases hE with ⟨hk, rfl, hNf⟩ | ⟨hk, ⟨bb, rfl, _, _⟩, _⟩ | ⟨hk, rfl, _⟩
    · simp only at hk
      subst hk
      have HO : Hid (callP M i x = ok (pushP (cutP oM i q) i [⟨rT, rN, rS⟩, ⟨sT, sN, sS⟩]) noEv) := HO1.out
      have R7 := HN6.out _ _ hNf
      have R8 : Rm own W m a nb tp i [(wr.heap.size + 1, vBox sT sN sS), (wr.heap.size, vBox rT rN rS), (W.heap.size, zEv)] oM ((((((w7.setCell ⟨wr.heap.size, 0, none⟩ (.int .i64 rT)).setCell ⟨wr.heap.size, 1, none⟩ (.int .u64 (rN : Int))).setCell ⟨wr.heap.size, 2, none⟩ (.string ⟨rS.toArray⟩)).setCell ⟨wr.heap.size + 1, 0, none⟩ (.int .i64 sT)).setCell ⟨wr.heap.size + 1, 1, none⟩ (.int .u64 (sN : Int))).setCell ⟨wr.heap.size + 1, 2, none⟩ (.string ⟨sS.toArray⟩)) := R7.set6 (n := wr.heap.size) (e := W.heap.size) (oe := zEv) (by simp) (by simp) (by simp) HWR.out ⟨rT, rN, rS⟩ ⟨sT, sN, sS⟩
      obtain ⟨z0, z1, z2, zz⟩ := R7.val (b := wr.heap.size) (T := 0) (N := 0) (S := []) (by simp)
      obtain ⟨y0, y1, y2, yy⟩ := R7.val (b := wr.heap.size + 1) (T := 0) (N := 0) (S := []) (by simp)
      clear HBI HOU HN6 hNf R7 HE7 HO1
      simp only [valR, valV_mk]
      go_upto_region 62 with fail
      clear z0 z1 z2 zz y0 y1 y2 yy
      generalize (((((w7.setCell ⟨wr.heap.size, 0, none⟩ (.int .i64 rT)).setCell ⟨wr.heap.size, 1, none⟩ (.int .u64 (rN : Int))).setCell ⟨wr.heap.size, 2, none⟩ (.string ⟨rS.toArray⟩)).setCell ⟨wr.heap.size + 1, 0, none⟩ (.int .i64 sT)).setCell ⟨wr.heap.size + 1, 1, none⟩ (.int .u64 (sN : Int))).setCell ⟨wr.heap.size + 1, 2, none⟩ (.string ⟨sS.toArray⟩) = w8 at *
      obtain ⟨own8, hv8, _⟩ := R8.vm
      obtain ⟨ad8, scp8, t1, t2, t3, _⟩ := hv8.sk HT7.out.2
      rw [HT7.out.1] at t1 t2
      have R9 := R8.cutSk HT7.out.2 t1 q (by rw [HT7.out.1]; omega)
      have hq8 : q ≤ scp8 := by omega
      have halt8 := hv8.alt
      clear hv8 R8
      go_upto_region 63 with fail
      clear t1 t3
      generalize w8.setCell ⟨a, i * 5 + 2, none⟩ (.slice ad8 q scp8) = w9 at *
      obtain ⟨z0, z1, z2, zz⟩ := R9.val (b := wr.heap.size) (T := rT) (N := rN) (S := rS) (by simp)
      obtain ⟨y0, y1, y2, yy⟩ := R9.val (b := wr.heap.size + 1) (T := sT) (N := sN) (S := sS) (by simp)
      have HPU := R9.push2 (by show i < (cutP oM i q).th.length; unfold cutP; rw [th_setT]; exact HT7.out.2) (by rw [cut_t HT7.out.2]; show ((oM.t i).sk.take q).length ≤ 20000; rw [List.length_take]; have := HT7.out.1; omega) ⟨rT, rN, rS⟩ ⟨sT, sN, sS⟩
      clear R9
      go_wp2_with fail
      refine HPU.mono ?_; rintro e wx ⟨rfl, R5⟩
      obtain ⟨e60, e61, e62, e63, e64, e65, e66, e67, e68, z6⟩ := cells9 (R5.rn.box (b := W.heap.size) (o := zEv) (by simp)).1
      have HF : Hid (∀ x0 x1 x2 x3 x4 x5 x6 x7 x8, Nx own W m a nb tp (pushP (cutP oM i q) i [⟨rT, rN, rS⟩, ⟨sT, sN, sS⟩]) (putE wx W.heap.size x0 x1 x2 x3 x4 x5 x6 x7 x8)) := fun x0 x1 x2 x3 x4 x5 x6 x7 x8 => R5.rn.putE (by simp) x0 x1 x2 x3 x4 x5 x6 x7 x8
      clear HPU R5
      go_wp2_with fail
      refine bodyPost_ret (v := .agg #[.int .i64 0, .int .i64 0, .int .i64 0, .int .i64 0, .int .u64 0, .string ⟨#[]⟩, .int .i64 0, .int .u64 0, .string ⟨#[]⟩]) (by first | (simp [results, go_sem]; done) | (simp [results, go_sem, e60, e61, e62, e63, e64, e65, e66, e67, e68]; done)) rfl ?_
      rw [HO.out]
      exact .inl ⟨rfl, rfl, HF.out _ _ _ _ _ _ _ _ _⟩
    · simp only at hk
      subst hk
      have HE : Hid (OuEnd own W m a nb tp (callP M i x) evV (thrE bb) w7) := by
        rcases HE7.out with ⟨h, _⟩ | ⟨_, h1, h2⟩ | ⟨h, _⟩
        · cases h
        · show OuEnd own W m a nb tp (callP M i x) evV (thrE bb) w7
          rw [HO1.out]
          exact .inr (.inl ⟨rfl, h1, h2⟩)
        · cases h
      clear HBI HOU HN6 HE7
      go_wp2_with fail
      simp [bodyPost]
      exact HE.out
    · simp only at hk
      subst hk
      have HE : Hid (OuEnd own W m a nb tp (callP M i x) evV (trapE oe) w7) := by
        rcases HE7.out with ⟨h, _⟩ | ⟨h, _⟩ | ⟨_, h1, h2⟩
        · cases h
        · cases h
        · show OuEnd own W m a nb tp (callP M i x) evV (trapE oe) w7
          rw [HO1.out]
          exact .inr (.inr ⟨rfl, rfl, h2⟩)
      clear HBI HOU HN6 HE7
      go_wp2_with fail
      simp [bodyPost]
      exact HE.out
set_option maxRecDepth 16000 in
set_option maxHeartbeats 8000000 in
theorem call_b8 {own : Nat → Nat} {W : World} {m a nb tp : Nat} {M : Mc} (HV : Vm own W m a nb tp M) {i : Nat} (hA : Alive M (some i)) (hi : i < M.th.length) {fb n cp : Nat} (hfr : W.cell? ⟨a, i * 5 + 3, none⟩ = some (.slice (some ⟨fb, 0, none⟩) (n + 1) cp)) (hln : (M.t i).fr.length = n + 1) (x q : Nat) (hx : x ≤ 3) (hq : (M.t i).sk.length = q + 1 + x) (hpc : (M.t i).f.pc < (M.p (M.t i).f.clo).nc) (hfu : ¬ M.fuel = 0) (h6 : ((M.t i).sk[q]?.getD nilV).T = 6) (hb : ((M.t i).sk[q]?.getD nilV).N = 8) :
    Calls Tryz.prog 90 #[.pointer (some ⟨m, 0, none⟩), i64 i, .pointer (some ⟨a, i * 5, none⟩), .pointer (some ⟨fb, n * 5, none⟩), i64 x] W (OuEnd own W m a nb tp (callP M i x) evV) := by
  obtain ⟨r1, r2, r3, r4, r5, r6, r7⟩ := hA.runs hi
  have hpc9 : (M.t i).f.pc ≤ 65535 := by have := (hA.st.each _ (hA.prc r4)).2.2.2.2; omega
  have hsk := sk_bound hA hi
  have R1 : Rm own W m a nb tp i [(W.heap.size, zEv)] M (W.alloc zEv) := (Rm.start HV).alloc zEv rfl
  obtain ⟨own1, hv1, hN1⟩ := R1.vm
  have HB := burn_f hv1 hA.ou.fuel i
  have HR2 : Hid (∀ w1, Nf own1 (W.alloc zEv) m a nb tp i { M with fuel := M.fuel - 1 } w1 → Rm own W m a nb tp i [(W.heap.size, zEv)] { M with fuel := M.fuel - 1 } w1) := hN1 _
  have hbk : burnP M = ok { M with fuel := M.fuel - 1 } () := if_neg hfu
  rw [hbk] at HB
  have HO0 : Hid (callP M i x = callB { M with fuel := M.fuel - 1 } i x) := callP_eq x hfu
  obtain ⟨fn, hfn⟩ : ∃ fn, fn = (M.t i).sk[q]?.getD nilV := ⟨_, rfl⟩
  have HFN : Hid (fn = (M.t i).sk[q]?.getD nilV) := hfn
  rw [← hfn] at h6 hb
  have hK := hA.fuel (n := M.fuel - 1) (by omega)
  have HK0 : Hid (Alive (M.kk i) (some i)) := hK.setPc (i := i) hi ((M.t i).f.pc + 1) (by show _ ≤ (M.p (M.t i).f.clo).nc; omega)
  have HKL : Hid ((M.kk i).th.length = M.th.length) := by show (Mc.setT _ i _).th.length = _; rw [th_setT]
  clear hK
  clear hfn
  obtain ⟨fT, fN, fS⟩ := fn
  have hfa := Th.f_at (t := M.t i) r2
  rw [hln, Nat.add_sub_cancel] at hfa
  obtain ⟨pc, hpce⟩ : ∃ pc, pc = (M.t i).f.pc := ⟨_, rfl⟩
  have HH : Hid (Vm own W m a nb tp M ∧ Alive M (some i) ∧ W.cell? ⟨a, i * 5 + 3, none⟩ = some (.slice (some ⟨fb, 0, none⟩) (n + 1) cp) ∧ (M.t i).fr.length = n + 1 ∧ (M.t i).sk.length = q + 1 + x ∧ (M.t i).fr[n]? = some (M.t i).f ∧ pc = (M.t i).f.pc) := ⟨HV, hA, hfr, hln, hq, hfa, hpce⟩
  have HKT : Hid (i < (M.kk i).th.length ∧ ((M.kk i).t i).sk = (M.t i).sk ∧ ((M.kk i).t i).fr.length = (M.t i).fr.length) := by
    have e1 : (M.kk i).t i = (M.t i).setF { (M.t i).f with pc := (M.t i).f.pc + 1 } := t_setT hi _
    refine ⟨by show i < (Mc.setT _ i _).th.length; rw [th_setT]; exact hi, by rw [e1]; rfl, by rw [e1]; exact List.length_set⟩
  rw [← hpce] at hpc9
  clear HV hv1 hN1 R1 hbk hfu r1 r2 r3 r4 r5 r6 r7 hpc hA hfr hln hfa hpce
  rw [hq] at hsk
  clear hq
  simp only at h6 hb
  have H6 : Hid (fT = 6) := h6
  have HBN : Hid (fN = 8) := hb
  clear h6 hb
  go_enter Tryz.func90, Tryz.ntmps90
  go_wp2_with fail
  refine HB.mono ?_; rintro e w1 hE
  rcases hE with ⟨_, rfl, hNf⟩ | ⟨h, _⟩ | ⟨h, _⟩
  rotate_left
  · cases h
  · cases h
  have R2 := HR2.out w1 hNf
  obtain ⟨own2, hv2, hN2⟩ := R2.vm
  obtain ⟨sb, scp, s1, s2, s3, s4, s5, sz, s6, s7, s8⟩ := hv2.skE (i := i) hi (k := q) (by show q < (M.t i).sk.length; rw [HH.out.2.2.2.2.1]; omega)
  rw [show (({ M with fuel := M.fuel - 1 } : Mc).t i).sk.length = q + 1 + x from HH.out.2.2.2.2.1] at s1 s2
  rw [show (({ M with fuel := M.fuel - 1 } : Mc).t i).sk[q]?.getD nilV = ⟨fT, fN, fS⟩ from HFN.out.symm] at s6 s7 s8
  simp only at s6 s7 s8
  have hlt2 := hv2.alt
  have f0 : w1.cell? ⟨a, i * 5 + 3, none⟩ = some (.slice (some ⟨fb, 0, none⟩) (n + 1) cp) := R2.rn.frs.trans HH.out.2.2.1
  have hna : ¬ a = fb := (hv2.fna hi f0).1
  have hsbf : ¬ sb = fb := by have := (hv2.fna hi f0).2.2.1; rintro rfl; omega
  obtain ⟨_, hfb2, _, fz, _, f3, _, _, _, f8⟩ := hv2.frame (i := i) hi f0 HH.out.2.2.2.2.2.1
  have R3 := hN2 _ _ (f8 1 (i64 ((M.t i).f.pc + 1)) { (M.t i).f with pc := (M.t i).f.pc + 1 } (by omega) rfl)
  rw [kk_set HH.out.2.2.2.1, ← HH.out.2.2.2.2.2.2] at R3
  have R4 := R3.alloc (vBox fT fN fS) (n := w1.heap.size) (by simp only [size_set])
  rw [← HH.out.2.2.2.2.2.2] at f3
  have fz1 := fz (n * 5 + 1)
  clear fz f8 hN2 hv2 HR2 HB hNf R2 R3 s4 s5 sz
  go_upto_region 7 with fail
  rw [Nat.add_sub_cancel_left]
  have eW : (w1.setCell ⟨fb, n * 5 + 1, none⟩ (.int .i64 ((pc : Int) + 1))).alloc (.cells #[.int .i64 fT, .int .u64 (fN : Int), .string ⟨fS.toArray⟩] 33) = (w1.setCell ⟨fb, n * 5 + 1, none⟩ (i64 (pc + 1))).alloc (vBox fT fN fS) := by rw [show ((pc : Int) + 1) = ((pc + 1 : Nat) : Int) by omega]
  rw [eW]
  have HW4 : Hid (w1.heap.size < ((w1.setCell ⟨fb, n * 5 + 1, none⟩ (i64 (pc + 1))).alloc (vBox fT fN fS)).heap.size) := by show _ < _; simp
  have s1w : ((w1.setCell ⟨fb, n * 5 + 1, none⟩ (i64 (pc + 1))).alloc (vBox fT fN fS)).cell? ⟨a, i * 5 + 2, none⟩ = some (.slice (some ⟨sb, 0, none⟩) (q + 1 + x) scp) := ((below_one (w1.setCell ⟨fb, n * 5 + 1, none⟩ (i64 (pc + 1))) (vBox fT fN fS)).cell (p := ⟨a, i * 5 + 2, none⟩) (by simp only [size_set]; exact hlt2)).trans ((World.cell?_of_block (a := ⟨a, i * 5 + 2, none⟩) (Below.heap_setCell _ _ _ _ hna)).trans s1)
  clear eW s1 s6 s7 s8 f0 f3 fz1 hfb2 s3
  generalize (w1.setCell ⟨fb, n * 5 + 1, none⟩ (i64 (pc + 1))).alloc (vBox fT fN fS) = w4 at *
  obtain ⟨b0, b1, b2, bz⟩ := R4.val (b := w1.heap.size) (T := fT) (N := fN) (S := fS) (by simp)
  obtain ⟨own4, hv4, hN4, hX4⟩ := R4.vmX
  obtain ⟨k0, ek0, hk0, hal, hAV, hsa⟩ := hv4.args HKT.out.1 (q := q) (x := x) (by rw [HKT.out.2.1]; exact HH.out.2.2.2.2.1) s1w
  rw [HKT.out.2.1] at hal hAV
  rw [ek0]
  have HAV : Hid (AV w4.heap.size w4 (.slice (some ⟨sb, k0, none⟩) x x) ((M.t i).sk.drop (q + 1))) := hAV
  have hsl : sb < w4.heap.size := by obtain ⟨_, _, _, h1, h2, _⟩ := hAV; cases h1; exact h2
  clear hAV ek0
  have h6 := H6.out
  subst h6
  have hlt4 := hv4.alt
  have HKA : Hid (Alive (M.kk i) (some i)) := HK0.out
  clear hN4 hX4
  go_wp2_with fail
  go_loopw [14] (fun av wr => ∃ (l : List V) (ab k cap : Nat), av = .slice (some ⟨ab, k, none⟩) l.length cap ∧ l.length ≤ 3 ∧ Hid (AV w4.heap.size wr av l ∧ Below w4.heap.size w4 wr ∧ (∀ j : Nat, l[j]?.getD nilV = ((M.t i).sk.drop (q + 1))[j]?.getD nilV) ∧ ab ≠ a ∧ (ab = sb ∨ w4.heap.size ≤ ab) ∧ (∀ j : Nat, k + l.length * 3 ≤ (q + 1 + x) * 3 ∨ w4.heap.size ≤ ab))) (fun av _ => 10 - lenV av)
  case atStart => exact ⟨(M.t i).sk.drop (q + 1), sb, k0, x, by rw [hal], by omega, HAV.out, Below.refl _ _, fun _ => rfl, hsa, .inl rfl, fun _ => .inl (by rw [hal]; exact hk0)⟩
  case round =>
    obtain ⟨l, ab, k, cap, rfl, hl, HR⟩ := hrel
    by_cases hlt : l.length < 3
    · obtain ⟨av', w', happ, hav', ⟨b', cap', rfl, hge⟩, hbel⟩ := HR.out.1.grow HR.out.2.1.size (by omega) 53
      have dl : decide ((l.length : Int) < (3 : Int)) = true := decide_eq_true (by omega)
      have HREL : Hid (AV w4.heap.size w' (.slice (some ⟨b', 0, none⟩) (l.length + 1) cap') (l ++ [nilV]) ∧ Below w4.heap.size w4 w' ∧ (∀ j : Nat, (l ++ [nilV])[j]?.getD nilV = ((M.t i).sk.drop (q + 1))[j]?.getD nilV) ∧ b' ≠ a ∧ (b' = sb ∨ w4.heap.size ≤ b') ∧ (∀ j : Nat, 0 + (l ++ [nilV]).length * 3 ≤ (q + 1 + x) * 3 ∨ w4.heap.size ≤ b')) := by
        obtain ⟨_, h2, h3, h4, h5, h6⟩ := HR.out
        refine ⟨hav', h2.trans hbel, ?_, by omega, .inr hge, fun _ => .inr hge⟩
        intro j
        rw [← h3 j]
        by_cases cj : j < l.length
        · rw [List.getElem?_append_left cj]
        · by_cases ce : j = l.length
          · subst ce
            rw [List.getElem?_append_right (Nat.le_refl _), Nat.sub_self, List.getElem?_eq_none (Nat.le_refl _)]
            rfl
          · rw [List.getElem?_eq_none (by simp; omega), List.getElem?_eq_none (by omega)]
      have hll : (l ++ [nilV]).length = l.length + 1 := by simp
      have HLL : Hid ((l ++ [nilV]).length = l.length + 1) := hll
      clear hav' hbel hll HAV HR R4 hv4 HH HFN HKT HKA HK0 HO0
      go_wp2_with (at_builtin; refine wpList_append_eq rfl _ _ 53 rfl _ _ _ _ rfl rfl happ ?_)
      go_roundw
      case rel => exact ⟨l ++ [nilV], b', 0, cap', by rw [HLL.out], by rw [HLL.out]; omega, HREL⟩
      case measure => simp [lenV]; omega
    have hl3 : l.length = 3 := by omega
    have dl : decide ((l.length : Int) < (3 : Int)) = false := decide_eq_false (by omega)
    have hbw := HR.out.2.1
    have hlsz := hbw.size
    have b0 := (hbw.cell (p := ⟨w1.heap.size, 0, none⟩) HW4.out).trans b0
    have b1 := (hbw.cell (p := ⟨w1.heap.size, 1, none⟩) HW4.out).trans b1
    have b2 := (hbw.cell (p := ⟨w1.heap.size, 2, none⟩) HW4.out).trans b2
    have hw1r : w1.heap.size < wr.heap.size := Nat.lt_of_lt_of_le HW4.out hlsz
    have R5 := R4.below hbw
    have R6 := (R5.alloc (vBox 0 0 []) rfl).alloc (vBox 0 0 []) (n := wr.heap.size + 1) (by simp)
    obtain ⟨A0r, hab⟩ := HR.out.1.arg (j := 0) (by omega)
    obtain ⟨A1r, _⟩ := HR.out.1.arg (j := 1) (by omega)
    rw [HR.out.2.2.1 0, Nat.zero_mul, Nat.add_zero] at A0r
    rw [HR.out.2.2.1 1, Nat.one_mul] at A1r
    have hA := HH.out.2.1
    have vargs : ∀ v ∈ (M.t i).sk.drop (q + 1), okV M v := fun v hv => hA.skV hi v (List.mem_of_mem_drop hv)
    have va0 : okV (M.kk i) (((M.t i).sk.drop (q + 1))[0]?.getD nilV) := (arg_okV vargs 0).mono (Nat.le_refl _) (Nat.le_refl _) (by rw [HKL.out]; exact Nat.le_refl _)
    have va1 : okV (M.kk i) (((M.t i).sk.drop (q + 1))[1]?.getD nilV) := (arg_okV vargs 1).mono (Nat.le_refl _) (Nat.le_refl _) (by rw [HKL.out]; exact Nat.le_refl _)
    have hOB : Below wr.heap.size wr (box2 wr) := below_two (below_one _ _) (below_one _ _)
    have A0 : Arg (box2 wr) ab k (((M.t i).sk.drop (q + 1))[0]?.getD nilV) := by
      obtain ⟨x0, x1, x2⟩ := A0r
      exact ⟨(hOB.cell (p := ⟨ab, k, none⟩) hab).trans x0, (hOB.cell (p := ⟨ab, k + 1, none⟩) hab).trans x1, (hOB.cell (p := ⟨ab, k + 2, none⟩) hab).trans x2⟩
    have A1 : Arg (box2 wr) ab (k + 3) (((M.t i).sk.drop (q + 1))[1]?.getD nilV) := by
      obtain ⟨x0, x1, x2⟩ := A1r
      exact ⟨(hOB.cell (p := ⟨ab, k + 3, none⟩) hab).trans x0, (hOB.cell (p := ⟨ab, k + 3 + 1, none⟩) hab).trans x1, (hOB.cell (p := ⟨ab, k + 3 + 2, none⟩) hab).trans x2⟩
    have hat := arr_at ab k cap
    have hab2 : ab < (box2 wr).heap.size := by have := hOB.size; omega
    have habr := hab
    have HO1 : Hid (callP M i x = (builtP (M.kk i) 8 (((M.t i).sk.drop (q + 1))[0]?.getD nilV) (((M.t i).sk.drop (q + 1))[1]?.getD nilV)).then noEv fun M r => ok (pushP (cutP M i q) i [r.1, r.2]) noEv) := by
      show _ = _
      rw [HO0.out]
      have e1 : (({ M with fuel := M.fuel - 1 } : Mc).t i).sk.length - x - 1 = q := by show (M.t i).sk.length - x - 1 = q; rw [HH.out.2.2.2.2.1]; omega
      have e2 : ((({ M with fuel := M.fuel - 1 } : Mc).t i).sk[q]?.getD nilV) = ⟨6, fN, fS⟩ := HFN.out.symm
      unfold callB
      simp only
      rw [e1, e2, HBN.out]
      rfl
    have hBO := built_keeps HKA.out HKT.out.1 8 va0 va1
    obtain ⟨own6, hv6, hN6, ho6⟩ := R6.vmO
    have HBI : Calls Tryz.prog 102 #[.pointer (some ⟨m, 0, none⟩), .pointer (some ⟨ab, k, none⟩)] (box2 wr) (OuEf own6 (box2 wr) m a nb tp i (builtP (M.kk i) 8 (((M.t i).sk.drop (q + 1))[0]?.getD nilV) (((M.t i).sk.drop (q + 1))[1]?.getD nilV)) valR) := b_create hv6 i hab2 A0 HKT.out.1 (fun h => by have := va0.fun_lt h; have := HKA.out.cl.cs24; omega)
    have hst : (builtP (M.kk i) 8 (((M.t i).sk.drop (q + 1))[0]?.getD nilV) (((M.t i).sk.drop (q + 1))[1]?.getD nilV)).k = 0 ∨ _ := hBO.k
    obtain ⟨o, ho⟩ : ∃ o, o = builtP (M.kk i) 8 (((M.t i).sk.drop (q + 1))[0]?.getD nilV) (((M.t i).sk.drop (q + 1))[1]?.getD nilV) := ⟨_, rfl⟩
    rw [← ho] at HO1 hBO HBI hst
    have HT7 : Hid ((o.M.t i).sk.length = q + 1 + x ∧ i < o.M.th.length) := ⟨by rw [hBO.t, HKT.out.2.1]; exact HH.out.2.2.2.2.1, by have := hBO.th; have := HKT.out.1; omega⟩
    have HOU : Hid (∀ e w', OuEf own6 (box2 wr) m a nb tp i o valR e w' → OuEf own W m a nb tp i o valR e w') := fun e w' h => ho6 h
    have HN6 : Hid (∀ M2 w2, Nf own6 (box2 wr) m a nb tp i M2 w2 → Rm own W m a nb tp i [(wr.heap.size + 1, vBox 0 0 []), (wr.heap.size, vBox 0 0 []), (w1.heap.size, vBox 6 fN fS), (W.heap.size, zEv)] M2 w2) := hN6
    have hWr : W.heap.size < wr.heap.size := (R5.rn.box (b := W.heap.size) (o := zEv) (by simp)).2.2.1
    have hfN := HBN.out
    subst hfN
    obtain ⟨ok', oM, ⟨⟨rT, rN, rS⟩, ⟨sT, sN, sS⟩⟩, ov, oe⟩ := o
    have HWR : Hid (W.heap.size < wr.heap.size) := hWr
    clear ho hBO hst hv6 hN6 ho6 R6 R5 R4 hv4 A0 A1 A0r A1r va0 va1 vargs hA hOB HR HAV HH HFN HKT HKA HK0 HO0 HKL hbw
    clear hsl hsa hk0 hal s1w hlt4 hlsz hpc9 hna hsbf
    go_wp2_with fail
    refine HBI.mono ?_; rintro e w7 hE
    have HE7 : Hid (OuEf own W m a nb tp i ⟨ok', oM, ⟨⟨rT, rN, rS⟩, ⟨sT, sN, sS⟩⟩, ov, oe⟩ valR e w7) := HOU.out _ _ hE
    rcases hE with ⟨hk, rfl, hNf⟩ | ⟨hk, ⟨bb, rfl, _, _⟩, _⟩ | ⟨hk, rfl, _⟩
    · simp only at hk
      subst hk
      have HO : Hid (callP M i x = ok (pushP (cutP oM i q) i [⟨rT, rN, rS⟩, ⟨sT, sN, sS⟩]) noEv) := HO1.out
      have R7 := HN6.out _ _ hNf
      have R8 : Rm own W m a nb tp i [(wr.heap.size + 1, vBox sT sN sS), (wr.heap.size, vBox rT rN rS), (W.heap.size, zEv)] oM ((((((w7.setCell ⟨wr.heap.size, 0, none⟩ (.int .i64 rT)).setCell ⟨wr.heap.size, 1, none⟩ (.int .u64 (rN : Int))).setCell ⟨wr.heap.size, 2, none⟩ (.string ⟨rS.toArray⟩)).setCell ⟨wr.heap.size + 1, 0, none⟩ (.int .i64 sT)).setCell ⟨wr.heap.size + 1, 1, none⟩ (.int .u64 (sN : Int))).setCell ⟨wr.heap.size + 1, 2, none⟩ (.string ⟨sS.toArray⟩)) := R7.set6 (n := wr.heap.size) (e := W.heap.size) (oe := zEv) (by simp) (by simp) (by simp) HWR.out ⟨rT, rN, rS⟩ ⟨sT, sN, sS⟩
      obtain ⟨z0, z1, z2, zz⟩ := R7.val (b := wr.heap.size) (T := 0) (N := 0) (S := []) (by simp)
      obtain ⟨y0, y1, y2, yy⟩ := R7.val (b := wr.heap.size + 1) (T := 0) (N := 0) (S := []) (by simp)
      clear HBI HOU HN6 hNf R7 HE7 HO1
      simp only [valR, valV_mk]
      go_upto_region 62 with fail
      clear z0 z1 z2 zz y0 y1 y2 yy
      generalize (((((w7.setCell ⟨wr.heap.size, 0, none⟩ (.int .i64 rT)).setCell ⟨wr.heap.size, 1, none⟩ (.int .u64 (rN : Int))).setCell ⟨wr.heap.size, 2, none⟩ (.string ⟨rS.toArray⟩)).setCell ⟨wr.heap.size + 1, 0, none⟩ (.int .i64 sT)).setCell ⟨wr.heap.size + 1, 1, none⟩ (.int .u64 (sN : Int))).setCell ⟨wr.heap.size + 1, 2, none⟩ (.string ⟨sS.toArray⟩) = w8 at *
      obtain ⟨own8, hv8, _⟩ := R8.vm
      obtain ⟨ad8, scp8, t1, t2, t3, _⟩ := hv8.sk HT7.out.2
      rw [HT7.out.1] at t1 t2
      have R9 := R8.cutSk HT7.out.2 t1 q (by rw [HT7.out.1]; omega)
      have hq8 : q ≤ scp8 := by omega
      have halt8 := hv8.alt
      clear hv8 R8
      go_upto_region 63 with fail
      clear t1 t3
      generalize w8.setCell ⟨a, i * 5 + 2, none⟩ (.slice ad8 q scp8) = w9 at *
      obtain ⟨z0, z1, z2, zz⟩ := R9.val (b := wr.heap.size) (T := rT) (N := rN) (S := rS) (by simp)
      obtain ⟨y0, y1, y2, yy⟩ := R9.val (b := wr.heap.size + 1) (T := sT) (N := sN) (S := sS) (by simp)
      have HPU := R9.push2 (by show i < (cutP oM i q).th.length; unfold cutP; rw [th_setT]; exact HT7.out.2) (by rw [cut_t HT7.out.2]; show ((oM.t i).sk.take q).length ≤ 20000; rw [List.length_take]; have := HT7.out.1; omega) ⟨rT, rN, rS⟩ ⟨sT, sN, sS⟩
      clear R9
      go_wp2_with fail
      refine HPU.mono ?_; rintro e wx ⟨rfl, R5⟩
      obtain ⟨e60, e61, e62, e63, e64, e65, e66, e67, e68, z6⟩ := cells9 (R5.rn.box (b := W.heap.size) (o := zEv) (by simp)).1
      have HF : Hid (∀ x0 x1 x2 x3 x4 x5 x6 x7 x8, Nx own W m a nb tp (pushP (cutP oM i q) i [⟨rT, rN, rS⟩, ⟨sT, sN, sS⟩]) (putE wx W.heap.size x0 x1 x2 x3 x4 x5 x6 x7 x8)) := fun x0 x1 x2 x3 x4 x5 x6 x7 x8 => R5.rn.putE (by simp) x0 x1 x2 x3 x4 x5 x6 x7 x8
      clear HPU R5
      go_wp2_with fail
      refine bodyPost_ret (v := .agg #[.int .i64 0, .int .i64 0, .int .i64 0, .int .i64 0, .int .u64 0, .string ⟨#[]⟩, .int .i64 0, .int .u64 0, .string ⟨#[]⟩]) (by first | (simp [results, go_sem]; done) | (simp [results, go_sem, e60, e61, e62, e63, e64, e65, e66, e67, e68]; done)) rfl ?_
      rw [HO.out]
      exact .inl ⟨rfl, rfl, HF.out _ _ _ _ _ _ _ _ _⟩
    · simp only at hk
      subst hk
      have HE : Hid (OuEnd own W m a nb tp (callP M i x) evV (thrE bb) w7) := by
        rcases HE7.out with ⟨h, _⟩ | ⟨_, h1, h2⟩ | ⟨h, _⟩
        · cases h
        · show OuEnd own W m a nb tp (callP M i x) evV (thrE bb) w7
          rw [HO1.out]
          exact .inr (.inl ⟨rfl, h1, h2⟩)
        · cases h
      clear HBI HOU HN6 HE7
      go_wp2_with fail
      simp [bodyPost]
      exact HE.out
    · simp only at hk
      subst hk
      have HE : Hid (OuEnd own W m a nb tp (callP M i x) evV (trapE oe) w7) := by
        rcases HE7.out with ⟨h, _⟩ | ⟨h, _⟩ | ⟨_, h1, h2⟩
        · cases h
        · cases h
        · show OuEnd own W m a nb tp (callP M i x) evV (trapE oe) w7
          rw [HO1.out]
          exact .inr (.inr ⟨rfl, rfl, h2⟩)
      clear HBI HOU HN6 HE7
      go_wp2_with fail
      simp [bodyPost]
      exact HE.out
set_option maxRecDepth 16000 in
set_option maxHeartbeats 8000000 in
theorem call_b11 {own : Nat → Nat} {W : World} {m a nb tp : Nat} {M : Mc} (HV : Vm own W m a nb tp M) {i : Nat} (hA : Alive M (some i)) (hi : i < M.th.length) {fb n cp : Nat} (hfr : W.cell? ⟨a, i * 5 + 3, none⟩ = some (.slice (some ⟨fb, 0, none⟩) (n + 1) cp)) (hln : (M.t i).fr.length = n + 1) (x q : Nat) (hx : x ≤ 3) (hq : (M.t i).sk.length = q + 1 + x) (hpc : (M.t i).f.pc < (M.p (M.t i).f.clo).nc) (hfu : ¬ M.fuel = 0) (h6 : ((M.t i).sk[q]?.getD nilV).T = 6) (hb : ((M.t i).sk[q]?.getD nilV).N = 11) :
    Calls Tryz.prog 90 #[.pointer (some ⟨m, 0, none⟩), i64 i, .pointer (some ⟨a, i * 5, none⟩), .pointer (some ⟨fb, n * 5, none⟩), i64 x] W (OuEnd own W m a nb tp (callP M i x) evV) := by
  obtain ⟨r1, r2, r3, r4, r5, r6, r7⟩ := hA.runs hi
  have hpc9 : (M.t i).f.pc ≤ 65535 := by have := (hA.st.each _ (hA.prc r4)).2.2.2.2; omega
  have hsk := sk_bound hA hi
  have R1 : Rm own W m a nb tp i [(W.heap.size, zEv)] M (W.alloc zEv) := (Rm.start HV).alloc zEv rfl
  obtain ⟨own1, hv1, hN1⟩ := R1.vm
  have HB := burn_f hv1 hA.ou.fuel i
  have HR2 : Hid (∀ w1, Nf own1 (W.alloc zEv) m a nb tp i { M with fuel := M.fuel - 1 } w1 → Rm own W m a nb tp i [(W.heap.size, zEv)] { M with fuel := M.fuel - 1 } w1) := hN1 _
  have hbk : burnP M = ok { M with fuel := M.fuel - 1 } () := if_neg hfu
  rw [hbk] at HB
  have HO0 : Hid (callP M i x = callB { M with fuel := M.fuel - 1 } i x) := callP_eq x hfu
  obtain ⟨fn, hfn⟩ : ∃ fn, fn = (M.t i).sk[q]?.getD nilV := ⟨_, rfl⟩
  have HFN : Hid (fn = (M.t i).sk[q]?.getD nilV) := hfn
  rw [← hfn] at h6 hb
  have hK := hA.fuel (n := M.fuel - 1) (by omega)
  have HK0 : Hid (Alive (M.kk i) (some i)) := hK.setPc (i := i) hi ((M.t i).f.pc + 1) (by show _ ≤ (M.p (M.t i).f.clo).nc; omega)
  have HKL : Hid ((M.kk i).th.length = M.th.length) := by show (Mc.setT _ i _).th.length = _; rw [th_setT]
  clear hK
  clear hfn
  obtain ⟨fT, fN, fS⟩ := fn
  have hfa := Th.f_at (t := M.t i) r2
  rw [hln, Nat.add_sub_cancel] at hfa
  obtain ⟨pc, hpce⟩ : ∃ pc, pc = (M.t i).f.pc := ⟨_, rfl⟩
  have HH : Hid (Vm own W m a nb tp M ∧ Alive M (some i) ∧ W.cell? ⟨a, i * 5 + 3, none⟩ = some (.slice (some ⟨fb, 0, none⟩) (n + 1) cp) ∧ (M.t i).fr.length = n + 1 ∧ (M.t i).sk.length = q + 1 + x ∧ (M.t i).fr[n]? = some (M.t i).f ∧ pc = (M.t i).f.pc) := ⟨HV, hA, hfr, hln, hq, hfa, hpce⟩
  have HKT : Hid (i < (M.kk i).th.length ∧ ((M.kk i).t i).sk = (M.t i).sk ∧ ((M.kk i).t i).fr.length = (M.t i).fr.length) := by
    have e1 : (M.kk i).t i = (M.t i).setF { (M.t i).f with pc := (M.t i).f.pc + 1 } := t_setT hi _
    refine ⟨by show i < (Mc.setT _ i _).th.length; rw [th_setT]; exact hi, by rw [e1]; rfl, by rw [e1]; exact List.length_set⟩
  rw [← hpce] at hpc9
  clear HV hv1 hN1 R1 hbk hfu r1 r2 r3 r4 r5 r6 r7 hpc hA hfr hln hfa hpce
  rw [hq] at hsk
  clear hq
  simp only at h6 hb
  have H6 : Hid (fT = 6) := h6
  have HBN : Hid (fN = 11) := hb
  clear h6 hb
  go_enter Tryz.func90, Tryz.ntmps90
  go_wp2_with fail
  refine HB.mono ?_; rintro e w1 hE
  rcases hE with ⟨_, rfl, hNf⟩ | ⟨h, _⟩ | ⟨h, _⟩
  rotate_left
  · cases h
  · cases h
  have R2 := HR2.out w1 hNf
  obtain ⟨own2, hv2, hN2⟩ := R2.vm
  obtain ⟨sb, scp, s1, s2, s3, s4, s5, sz, s6, s7, s8⟩ := hv2.skE (i := i) hi (k := q) (by show q < (M.t i).sk.length; rw [HH.out.2.2.2.2.1]; omega)
  rw [show (({ M with fuel := M.fuel - 1 } : Mc).t i).sk.length = q + 1 + x from HH.out.2.2.2.2.1] at s1 s2
  rw [show (({ M with fuel := M.fuel - 1 } : Mc).t i).sk[q]?.getD nilV = ⟨fT, fN, fS⟩ from HFN.out.symm] at s6 s7 s8
  simp only at s6 s7 s8
  have hlt2 := hv2.alt
  have f0 : w1.cell? ⟨a, i * 5 + 3, none⟩ = some (.slice (some ⟨fb, 0, none⟩) (n + 1) cp) := R2.rn.frs.trans HH.out.2.2.1
  have hna : ¬ a = fb := (hv2.fna hi f0).1
  have hsbf : ¬ sb = fb := by have := (hv2.fna hi f0).2.2.1; rintro rfl; omega
  obtain ⟨_, hfb2, _, fz, _, f3, _, _, _, f8⟩ := hv2.frame (i := i) hi f0 HH.out.2.2.2.2.2.1
  have R3 := hN2 _ _ (f8 1 (i64 ((M.t i).f.pc + 1)) { (M.t i).f with pc := (M.t i).f.pc + 1 } (by omega) rfl)
  rw [kk_set HH.out.2.2.2.1, ← HH.out.2.2.2.2.2.2] at R3
  have R4 := R3.alloc (vBox fT fN fS) (n := w1.heap.size) (by simp only [size_set])
  rw [← HH.out.2.2.2.2.2.2] at f3
  have fz1 := fz (n * 5 + 1)
  clear fz f8 hN2 hv2 HR2 HB hNf R2 R3 s4 s5 sz
  go_upto_region 7 with fail
  rw [Nat.add_sub_cancel_left]
  have eW : (w1.setCell ⟨fb, n * 5 + 1, none⟩ (.int .i64 ((pc : Int) + 1))).alloc (.cells #[.int .i64 fT, .int .u64 (fN : Int), .string ⟨fS.toArray⟩] 33) = (w1.setCell ⟨fb, n * 5 + 1, none⟩ (i64 (pc + 1))).alloc (vBox fT fN fS) := by rw [show ((pc : Int) + 1) = ((pc + 1 : Nat) : Int) by omega]
  rw [eW]
  have HW4 : Hid (w1.heap.size < ((w1.setCell ⟨fb, n * 5 + 1, none⟩ (i64 (pc + 1))).alloc (vBox fT fN fS)).heap.size) := by show _ < _; simp
  have s1w : ((w1.setCell ⟨fb, n * 5 + 1, none⟩ (i64 (pc + 1))).alloc (vBox fT fN fS)).cell? ⟨a, i * 5 + 2, none⟩ = some (.slice (some ⟨sb, 0, none⟩) (q + 1 + x) scp) := ((below_one (w1.setCell ⟨fb, n * 5 + 1, none⟩ (i64 (pc + 1))) (vBox fT fN fS)).cell (p := ⟨a, i * 5 + 2, none⟩) (by simp only [size_set]; exact hlt2)).trans ((World.cell?_of_block (a := ⟨a, i * 5 + 2, none⟩) (Below.heap_setCell _ _ _ _ hna)).trans s1)
  clear eW s1 s6 s7 s8 f0 f3 fz1 hfb2 s3
  generalize (w1.setCell ⟨fb, n * 5 + 1, none⟩ (i64 (pc + 1))).alloc (vBox fT fN fS) = w4 at *
  obtain ⟨b0, b1, b2, bz⟩ := R4.val (b := w1.heap.size) (T := fT) (N := fN) (S := fS) (by simp)
  obtain ⟨own4, hv4, hN4, hX4⟩ := R4.vmX
  obtain ⟨k0, ek0, hk0, hal, hAV, hsa⟩ := hv4.args HKT.out.1 (q := q) (x := x) (by rw [HKT.out.2.1]; exact HH.out.2.2.2.2.1) s1w
  rw [HKT.out.2.1] at hal hAV
  rw [ek0]
  have HAV : Hid (AV w4.heap.size w4 (.slice (some ⟨sb, k0, none⟩) x x) ((M.t i).sk.drop (q + 1))) := hAV
  have hsl : sb < w4.heap.size := by obtain ⟨_, _, _, h1, h2, _⟩ := hAV; cases h1; exact h2
  clear hAV ek0
  have h6 := H6.out
  subst h6
  have hlt4 := hv4.alt
  have HKA : Hid (Alive (M.kk i) (some i)) := HK0.out
  clear hN4 hX4
  go_wp2_with fail
  go_loopw [14] (fun av wr => ∃ (l : List V) (ab k cap : Nat), av = .slice (some ⟨ab, k, none⟩) l.length cap ∧ l.length ≤ 3 ∧ Hid (AV w4.heap.size wr av l ∧ Below w4.heap.size w4 wr ∧ (∀ j : Nat, l[j]?.getD nilV = ((M.t i).sk.drop (q + 1))[j]?.getD nilV) ∧ ab ≠ a ∧ (ab = sb ∨ w4.heap.size ≤ ab) ∧ (∀ j : Nat, k + l.length * 3 ≤ (q + 1 + x) * 3 ∨ w4.heap.size ≤ ab))) (fun av _ => 10 - lenV av)
  case atStart => exact ⟨(M.t i).sk.drop (q + 1), sb, k0, x, by rw [hal], by omega, HAV.out, Below.refl _ _, fun _ => rfl, hsa, .inl rfl, fun _ => .inl (by rw [hal]; exact hk0)⟩
  case round =>
    obtain ⟨l, ab, k, cap, rfl, hl, HR⟩ := hrel
    by_cases hlt : l.length < 3
    · obtain ⟨av', w', happ, hav', ⟨b', cap', rfl, hge⟩, hbel⟩ := HR.out.1.grow HR.out.2.1.size (by omega) 53
      have dl : decide ((l.length : Int) < (3 : Int)) = true := decide_eq_true (by omega)
      have HREL : Hid (AV w4.heap.size w' (.slice (some ⟨b', 0, none⟩) (l.length + 1) cap') (l ++ [nilV]) ∧ Below w4.heap.size w4 w' ∧ (∀ j : Nat, (l ++ [nilV])[j]?.getD nilV = ((M.t i).sk.drop (q + 1))[j]?.getD nilV) ∧ b' ≠ a ∧ (b' = sb ∨ w4.heap.size ≤ b') ∧ (∀ j : Nat, 0 + (l ++ [nilV]).length * 3 ≤ (q + 1 + x) * 3 ∨ w4.heap.size ≤ b')) := by
        obtain ⟨_, h2, h3, h4, h5, h6⟩ := HR.out
        refine ⟨hav', h2.trans hbel, ?_, by omega, .inr hge, fun _ => .inr hge⟩
        intro j
        rw [← h3 j]
        by_cases cj : j < l.length
        · rw [List.getElem?_append_left cj]
        · by_cases ce : j = l.length
          · subst ce
            rw [List.getElem?_append_right (Nat.le_refl _), Nat.sub_self, List.getElem?_eq_none (Nat.le_refl _)]
            rfl
          · rw [List.getElem?_eq_none (by simp; omega), List.getElem?_eq_none (by omega)]
      have hll : (l ++ [nilV]).length = l.length + 1 := by simp
      have HLL : Hid ((l ++ [nilV]).length = l.length + 1) := hll
      clear hav' hbel hll HAV HR R4 hv4 HH HFN HKT HKA HK0 HO0
      go_wp2_with (at_builtin; refine wpList_append_eq rfl _ _ 53 rfl _ _ _ _ rfl rfl happ ?_)
      go_roundw
      case rel => exact ⟨l ++ [nilV], b', 0, cap', by rw [HLL.out], by rw [HLL.out]; omega, HREL⟩
      case measure => simp [lenV]; omega
    have hl3 : l.length = 3 := by omega
    have dl : decide ((l.length : Int) < (3 : Int)) = false := decide_eq_false (by omega)
    have hbw := HR.out.2.1
    have hlsz := hbw.size
    have b0 := (hbw.cell (p := ⟨w1.heap.size, 0, none⟩) HW4.out).trans b0
    have b1 := (hbw.cell (p := ⟨w1.heap.size, 1, none⟩) HW4.out).trans b1
    have b2 := (hbw.cell (p := ⟨w1.heap.size, 2, none⟩) HW4.out).trans b2
    have hw1r : w1.heap.size < wr.heap.size := Nat.lt_of_lt_of_le HW4.out hlsz
    have R5 := R4.below hbw
    have R6 := (R5.alloc (vBox 0 0 []) rfl).alloc (vBox 0 0 []) (n := wr.heap.size + 1) (by simp)
    obtain ⟨A0r, hab⟩ := HR.out.1.arg (j := 0) (by omega)
    obtain ⟨A1r, _⟩ := HR.out.1.arg (j := 1) (by omega)
    rw [HR.out.2.2.1 0, Nat.zero_mul, Nat.add_zero] at A0r
    rw [HR.out.2.2.1 1, Nat.one_mul] at A1r
    have hA := HH.out.2.1
    have vargs : ∀ v ∈ (M.t i).sk.drop (q + 1), okV M v := fun v hv => hA.skV hi v (List.mem_of_mem_drop hv)
    have va0 : okV (M.kk i) (((M.t i).sk.drop (q + 1))[0]?.getD nilV) := (arg_okV vargs 0).mono (Nat.le_refl _) (Nat.le_refl _) (by rw [HKL.out]; exact Nat.le_refl _)
    have va1 : okV (M.kk i) (((M.t i).sk.drop (q + 1))[1]?.getD nilV) := (arg_okV vargs 1).mono (Nat.le_refl _) (Nat.le_refl _) (by rw [HKL.out]; exact Nat.le_refl _)
    have hOB : Below wr.heap.size wr (box2 wr) := below_two (below_one _ _) (below_one _ _)
    have A0 : Arg (box2 wr) ab k (((M.t i).sk.drop (q + 1))[0]?.getD nilV) := by
      obtain ⟨x0, x1, x2⟩ := A0r
      exact ⟨(hOB.cell (p := ⟨ab, k, none⟩) hab).trans x0, (hOB.cell (p := ⟨ab, k + 1, none⟩) hab).trans x1, (hOB.cell (p := ⟨ab, k + 2, none⟩) hab).trans x2⟩
    have A1 : Arg (box2 wr) ab (k + 3) (((M.t i).sk.drop (q + 1))[1]?.getD nilV) := by
      obtain ⟨x0, x1, x2⟩ := A1r
      exact ⟨(hOB.cell (p := ⟨ab, k + 3, none⟩) hab).trans x0, (hOB.cell (p := ⟨ab, k + 3 + 1, none⟩) hab).trans x1, (hOB.cell (p := ⟨ab, k + 3 + 2, none⟩) hab).trans x2⟩
    have hat := arr_at ab k cap
    have hab2 : ab < (box2 wr).heap.size := by have := hOB.size; omega
    have habr := hab
    have HO1 : Hid (callP M i x = (builtP (M.kk i) 11 (((M.t i).sk.drop (q + 1))[0]?.getD nilV) (((M.t i).sk.drop (q + 1))[1]?.getD nilV)).then noEv fun M r => ok (pushP (cutP M i q) i [r.1, r.2]) noEv) := by
      show _ = _
      rw [HO0.out]
      have e1 : (({ M with fuel := M.fuel - 1 } : Mc).t i).sk.length - x - 1 = q := by show (M.t i).sk.length - x - 1 = q; rw [HH.out.2.2.2.2.1]; omega
      have e2 : ((({ M with fuel := M.fuel - 1 } : Mc).t i).sk[q]?.getD nilV) = ⟨6, fN, fS⟩ := HFN.out.symm
      unfold callB
      simp only
      rw [e1, e2, HBN.out]
      rfl
    have hBO := built_keeps HKA.out HKT.out.1 11 va0 va1
    obtain ⟨own6, hv6, hN6, ho6⟩ := R6.vmO
    have HBI : Calls Tryz.prog 103 #[.pointer (some ⟨m, 0, none⟩), .pointer (some ⟨ab, k, none⟩)] (box2 wr) (OuEf own6 (box2 wr) m a nb tp i (builtP (M.kk i) 11 (((M.t i).sk.drop (q + 1))[0]?.getD nilV) (((M.t i).sk.drop (q + 1))[1]?.getD nilV)) valR) := b_status hv6 i hab2 A0 (fun h => va0.co_lt h) (fun k => by by_cases hk : k < (M.kk i).th.length; exact (HKA.out.th k hk).st.2; unfold Mc.t; rw [List.getElem?_eq_none (by omega)]; decide)
    have hst : (builtP (M.kk i) 11 (((M.t i).sk.drop (q + 1))[0]?.getD nilV) (((M.t i).sk.drop (q + 1))[1]?.getD nilV)).k = 0 ∨ _ := hBO.k
    obtain ⟨o, ho⟩ : ∃ o, o = builtP (M.kk i) 11 (((M.t i).sk.drop (q + 1))[0]?.getD nilV) (((M.t i).sk.drop (q + 1))[1]?.getD nilV) := ⟨_, rfl⟩
    rw [← ho] at HO1 hBO HBI hst
    have HT7 : Hid ((o.M.t i).sk.length = q + 1 + x ∧ i < o.M.th.length) := ⟨by rw [hBO.t, HKT.out.2.1]; exact HH.out.2.2.2.2.1, by have := hBO.th; have := HKT.out.1; omega⟩
    have HOU : Hid (∀ e w', OuEf own6 (box2 wr) m a nb tp i o valR e w' → OuEf own W m a nb tp i o valR e w') := fun e w' h => ho6 h
    have HN6 : Hid (∀ M2 w2, Nf own6 (box2 wr) m a nb tp i M2 w2 → Rm own W m a nb tp i [(wr.heap.size + 1, vBox 0 0 []), (wr.heap.size, vBox 0 0 []), (w1.heap.size, vBox 6 fN fS), (W.heap.size, zEv)] M2 w2) := hN6
    have hWr : W.heap.size < wr.heap.size := (R5.rn.box (b := W.heap.size) (o := zEv) (by simp)).2.2.1
    have hfN := HBN.out
    subst hfN
    obtain ⟨ok', oM, ⟨⟨rT, rN, rS⟩, ⟨sT, sN, sS⟩⟩, ov, oe⟩ := o
    have HWR : Hid (W.heap.size < wr.heap.size) := hWr
    clear ho hBO hst hv6 hN6 ho6 R6 R5 R4 hv4 A0 A1 A0r A1r va0 va1 vargs hA hOB HR HAV HH HFN HKT HKA HK0 HO0 HKL hbw
    clear hsl hsa hk0 hal s1w hlt4 hlsz hpc9 hna hsbf
    go_wp2_with fail
    refine HBI.mono ?_; rintro e w7 hE
    have HE7 : Hid (OuEf own W m a nb tp i ⟨ok', oM, ⟨⟨rT, rN, rS⟩, ⟨sT, sN, sS⟩⟩, ov, oe⟩ valR e w7) := HOU.out _ _ hE
    rcases hE with ⟨hk, rfl, hNf⟩ | ⟨hk, ⟨bb, rfl, _, _⟩, _⟩ | ⟨hk, rfl, _⟩
    · simp only at hk
      subst hk
      have HO : Hid (callP M i x = ok (pushP (cutP oM i q) i [⟨rT, rN, rS⟩, ⟨sT, sN, sS⟩]) noEv) := HO1.out
      have R7 := HN6.out _ _ hNf
      have R8 : Rm own W m a nb tp i [(wr.heap.size + 1, vBox sT sN sS), (wr.heap.size, vBox rT rN rS), (W.heap.size, zEv)] oM ((((((w7.setCell ⟨wr.heap.size, 0, none⟩ (.int .i64 rT)).setCell ⟨wr.heap.size, 1, none⟩ (.int .u64 (rN : Int))).setCell ⟨wr.heap.size, 2, none⟩ (.string ⟨rS.toArray⟩)).setCell ⟨wr.heap.size + 1, 0, none⟩ (.int .i64 sT)).setCell ⟨wr.heap.size + 1, 1, none⟩ (.int .u64 (sN : Int))).setCell ⟨wr.heap.size + 1, 2, none⟩ (.string ⟨sS.toArray⟩)) := R7.set6 (n := wr.heap.size) (e := W.heap.size) (oe := zEv) (by simp) (by simp) (by simp) HWR.out ⟨rT, rN, rS⟩ ⟨sT, sN, sS⟩
      obtain ⟨z0, z1, z2, zz⟩ := R7.val (b := wr.heap.size) (T := 0) (N := 0) (S := []) (by simp)
      obtain ⟨y0, y1, y2, yy⟩ := R7.val (b := wr.heap.size + 1) (T := 0) (N := 0) (S := []) (by simp)
      clear HBI HOU HN6 hNf R7 HE7 HO1
      simp only [valR, valV_mk]
      go_upto_region 62 with fail
      clear z0 z1 z2 zz y0 y1 y2 yy
      generalize (((((w7.setCell ⟨wr.heap.size, 0, none⟩ (.int .i64 rT)).setCell ⟨wr.heap.size, 1, none⟩ (.int .u64 (rN : Int))).setCell ⟨wr.heap.size, 2, none⟩ (.string ⟨rS.toArray⟩)).setCell ⟨wr.heap.size + 1, 0, none⟩ (.int .i64 sT)).setCell ⟨wr.heap.size + 1, 1, none⟩ (.int .u64 (sN : Int))).setCell ⟨wr.heap.size + 1, 2, none⟩ (.string ⟨sS.toArray⟩) = w8 at *
      obtain ⟨own8, hv8, _⟩ := R8.vm
      obtain ⟨ad8, scp8, t1, t2, t3, _⟩ := hv8.sk HT7.out.2
      rw [HT7.out.1] at t1 t2
      have R9 := R8.cutSk HT7.out.2 t1 q (by rw [HT7.out.1]; omega)
      have hq8 : q ≤ scp8 := by omega
      have halt8 := hv8.alt
      clear hv8 R8
      go_upto_region 63 with fail
      clear t1 t3
      generalize w8.setCell ⟨a, i * 5 + 2, none⟩ (.slice ad8 q scp8) = w9 at *
      obtain ⟨z0, z1, z2, zz⟩ := R9.val (b := wr.heap.size) (T := rT) (N := rN) (S := rS) (by simp)
      obtain ⟨y0, y1, y2, yy⟩ := R9.val (b := wr.heap.size + 1) (T := sT) (N := sN) (S := sS) (by simp)
      have HPU := R9.push2 (by show i < (cutP oM i q).th.length; unfold cutP; rw [th_setT]; exact HT7.out.2) (by rw [cut_t HT7.out.2]; show ((oM.t i).sk.take q).length ≤ 20000; rw [List.length_take]; have := HT7.out.1; omega) ⟨rT, rN, rS⟩ ⟨sT, sN, sS⟩
      clear R9
      go_wp2_with fail
      refine HPU.mono ?_; rintro e wx ⟨rfl, R5⟩
      obtain ⟨e60, e61, e62, e63, e64, e65, e66, e67, e68, z6⟩ := cells9 (R5.rn.box (b := W.heap.size) (o := zEv) (by simp)).1
      have HF : Hid (∀ x0 x1 x2 x3 x4 x5 x6 x7 x8, Nx own W m a nb tp (pushP (cutP oM i q) i [⟨rT, rN, rS⟩, ⟨sT, sN, sS⟩]) (putE wx W.heap.size x0 x1 x2 x3 x4 x5 x6 x7 x8)) := fun x0 x1 x2 x3 x4 x5 x6 x7 x8 => R5.rn.putE (by simp) x0 x1 x2 x3 x4 x5 x6 x7 x8
      clear HPU R5
      go_wp2_with fail
      refine bodyPost_ret (v := .agg #[.int .i64 0, .int .i64 0, .int .i64 0, .int .i64 0, .int .u64 0, .string ⟨#[]⟩, .int .i64 0, .int .u64 0, .string ⟨#[]⟩]) (by first | (simp [results, go_sem]; done) | (simp [results, go_sem, e60, e61, e62, e63, e64, e65, e66, e67, e68]; done)) rfl ?_
      rw [HO.out]
      exact .inl ⟨rfl, rfl, HF.out _ _ _ _ _ _ _ _ _⟩
    · simp only at hk
      subst hk
      have HE : Hid (OuEnd own W m a nb tp (callP M i x) evV (thrE bb) w7) := by
        rcases HE7.out with ⟨h, _⟩ | ⟨_, h1, h2⟩ | ⟨h, _⟩
        · cases h
        · show OuEnd own W m a nb tp (callP M i x) evV (thrE bb) w7
          rw [HO1.out]
          exact .inr (.inl ⟨rfl, h1, h2⟩)
        · cases h
      clear HBI HOU HN6 HE7
      go_wp2_with fail
      simp [bodyPost]
      exact HE.out
    · simp only at hk
      subst hk
      have HE : Hid (OuEnd own W m a nb tp (callP M i x) evV (trapE oe) w7) := by
        rcases HE7.out with ⟨h, _⟩ | ⟨h, _⟩ | ⟨_, h1, h2⟩
        · cases h
        · cases h
        · show OuEnd own W m a nb tp (callP M i x) evV (trapE oe) w7
          rw [HO1.out]
          exact .inr (.inr ⟨rfl, rfl, h2⟩)
      clear HBI HOU HN6 HE7
      go_wp2_with fail
      simp [bodyPost]
      exact HE.out
end Go.Proofs.Qxb6500293aGreatRR
