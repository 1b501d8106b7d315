/-
  call walked: all.
-/
import Derived.Test.Qxb6500293aGreatRRY39
import Derived.Test.Qxb6500293aGreatRRY40
import Derived.Test.Qxb6500293aGreatRRY41
namespace Go.Proofs.Qxb6500293aGreatRR
open Go.RowKit
open Ieee (double)
set_option linter.unusedVariables false
set_option linter.unusedSimpArgs false

set_option maxRecDepth 16000 in
set_option maxHeartbeats 8000000 in
theorem call_r_else {own : Nat → Nat} {W : World} {m a nb tp : Nat} {M : Mc} (HV : Vm own W m a nb tp M) {i : Nat} (hA : Alive M (some i)) (hi : i < M.th.length) {fb n cp : Nat} (hfr : W.cell? ⟨a, i * 5 + 3, none⟩ = some (.slice (some ⟨fb, 0, none⟩) (n + 1) cp)) (hln : (M.t i).fr.length = n + 1) (x q : Nat) (hx : x ≤ 3) (hq : (M.t i).sk.length = q + 1 + x) (hpc : (M.t i).f.pc < (M.p (M.t i).f.clo).nc) (hfu : ¬ M.fuel = 0) (h6 : ((M.t i).sk[q]?.getD nilV).T = 6) (hb : ((M.t i).sk[q]?.getD nilV).N = 9) (h0 : (((M.t i).sk.drop (q + 1))[0]?.getD nilV).T = 7) (hs : ((M.kk i).t (((M.t i).sk.drop (q + 1))[0]?.getD nilV).N).st ≠ 1 ∧ ((M.kk i).t (((M.t i).sk.drop (q + 1))[0]?.getD nilV).N).st ≠ 2 ∧ ((M.kk i).t (((M.t i).sk.drop (q + 1))[0]?.getD nilV).N).st ≤ 5) :
    Calls Tryz.prog 90 #[.pointer (some ⟨m, 0, none⟩), i64 i, .pointer (some ⟨a, i * 5, none⟩), .pointer (some ⟨fb, n * 5, none⟩), i64 x] W (OuEnd own W m a nb tp (callP M i x) evV) := by
  obtain ⟨r1, r2, r3, r4, r5, r6, r7⟩ := hA.runs hi
  have hpc9 : (M.t i).f.pc ≤ 65535 := by have := (hA.st.each _ (hA.prc r4)).2.2.2.2; omega
  have hsk := sk_bound hA hi
  have R1 : Rm own W m a nb tp i [(W.heap.size, zEv)] M (W.alloc zEv) := (Rm.start HV).alloc zEv rfl
  obtain ⟨own1, hv1, hN1⟩ := R1.vm
  have HB := burn_f hv1 hA.ou.fuel i
  have HR2 : Hid (∀ w1, Nf own1 (W.alloc zEv) m a nb tp i { M with fuel := M.fuel - 1 } w1 → Rm own W m a nb tp i [(W.heap.size, zEv)] { M with fuel := M.fuel - 1 } w1) := hN1 _
  have hbk : burnP M = ok { M with fuel := M.fuel - 1 } () := if_neg hfu
  rw [hbk] at HB
  have HO0 : Hid (callP M i x = callB { M with fuel := M.fuel - 1 } i x) := callP_eq x hfu
  obtain ⟨fn, hfn⟩ : ∃ fn, fn = (M.t i).sk[q]?.getD nilV := ⟨_, rfl⟩
  have HFN : Hid (fn = (M.t i).sk[q]?.getD nilV) := hfn
  rw [← hfn] at h6 hb
  have hK := hA.fuel (n := M.fuel - 1) (by omega)
  have HK0 : Hid (Alive (M.kk i) (some i)) := hK.setPc (i := i) hi ((M.t i).f.pc + 1) (by show _ ≤ (M.p (M.t i).f.clo).nc; omega)
  have HKL : Hid ((M.kk i).th.length = M.th.length) := by show (Mc.setT _ i _).th.length = _; rw [th_setT]
  clear hK
  clear hfn
  obtain ⟨fT, fN, fS⟩ := fn
  have hfa := Th.f_at (t := M.t i) r2
  rw [hln, Nat.add_sub_cancel] at hfa
  obtain ⟨pc, hpce⟩ : ∃ pc, pc = (M.t i).f.pc := ⟨_, rfl⟩
  have HH : Hid (Vm own W m a nb tp M ∧ Alive M (some i) ∧ W.cell? ⟨a, i * 5 + 3, none⟩ = some (.slice (some ⟨fb, 0, none⟩) (n + 1) cp) ∧ (M.t i).fr.length = n + 1 ∧ (M.t i).sk.length = q + 1 + x ∧ (M.t i).fr[n]? = some (M.t i).f ∧ pc = (M.t i).f.pc) := ⟨HV, hA, hfr, hln, hq, hfa, hpce⟩
  have HKT : Hid (i < (M.kk i).th.length ∧ ((M.kk i).t i).sk = (M.t i).sk ∧ ((M.kk i).t i).fr.length = (M.t i).fr.length) := by
    have e1 : (M.kk i).t i = (M.t i).setF { (M.t i).f with pc := (M.t i).f.pc + 1 } := t_setT hi _
    refine ⟨by show i < (Mc.setT _ i _).th.length; rw [th_setT]; exact hi, by rw [e1]; rfl, by rw [e1]; exact List.length_set⟩
  rw [← hpce] at hpc9
  clear HV hv1 hN1 R1 hbk hfu r1 r2 r3 r4 r5 r6 r7 hpc hA hfr hln hfa hpce
  rw [hq] at hsk
  clear hq
  simp only at h6 hb
  have H6 : Hid (fT = 6) := h6
  have HBN : Hid (fN = 9) := hb
  clear h6 hb
  go_enter Tryz.func90, Tryz.ntmps90
  go_wp2_with fail
  refine HB.mono ?_; rintro e w1 hE
  rcases hE with ⟨_, rfl, hNf⟩ | ⟨h, _⟩ | ⟨h, _⟩
  rotate_left
  · cases h
  · cases h
  have R2 := HR2.out w1 hNf
  obtain ⟨own2, hv2, hN2⟩ := R2.vm
  obtain ⟨sb, scp, s1, s2, s3, s4, s5, sz, s6, s7, s8⟩ := hv2.skE (i := i) hi (k := q) (by show q < (M.t i).sk.length; rw [HH.out.2.2.2.2.1]; omega)
  rw [show (({ M with fuel := M.fuel - 1 } : Mc).t i).sk.length = q + 1 + x from HH.out.2.2.2.2.1] at s1 s2
  rw [show (({ M with fuel := M.fuel - 1 } : Mc).t i).sk[q]?.getD nilV = ⟨fT, fN, fS⟩ from HFN.out.symm] at s6 s7 s8
  simp only at s6 s7 s8
  have hlt2 := hv2.alt
  have f0 : w1.cell? ⟨a, i * 5 + 3, none⟩ = some (.slice (some ⟨fb, 0, none⟩) (n + 1) cp) := R2.rn.frs.trans HH.out.2.2.1
  have hna : ¬ a = fb := (hv2.fna hi f0).1
  have hsbf : ¬ sb = fb := by have := (hv2.fna hi f0).2.2.1; rintro rfl; omega
  obtain ⟨m1, hfb2, m2, fz, m3, f3, m4, m5, m6, f8⟩ := hv2.frame (i := i) hi f0 HH.out.2.2.2.2.2.1
  clear m1 m2 m3 m4 m5 m6
  have R3 := hN2 _ _ (f8 1 (i64 ((M.t i).f.pc + 1)) { (M.t i).f with pc := (M.t i).f.pc + 1 } (by omega) rfl)
  rw [kk_set HH.out.2.2.2.1, ← HH.out.2.2.2.2.2.2] at R3
  have R4 := R3.alloc (vBox fT fN fS) (n := w1.heap.size) (by simp only [size_set])
  rw [← HH.out.2.2.2.2.2.2] at f3
  have fz1 := fz (n * 5 + 1)
  clear fz f8 hN2 hv2 HR2 HB hNf R2 R3 s4 s5 sz
  go_upto_region 7 with fail
  rw [Nat.add_sub_cancel_left]
  have eW : (w1.setCell ⟨fb, n * 5 + 1, none⟩ (.int .i64 ((pc : Int) + 1))).alloc (.cells #[.int .i64 fT, .int .u64 (fN : Int), .string ⟨fS.toArray⟩] 33) = (w1.setCell ⟨fb, n * 5 + 1, none⟩ (i64 (pc + 1))).alloc (vBox fT fN fS) := by rw [show ((pc : Int) + 1) = ((pc + 1 : Nat) : Int) by omega]
  rw [eW]
  have HW4 : Hid (w1.heap.size < ((w1.setCell ⟨fb, n * 5 + 1, none⟩ (i64 (pc + 1))).alloc (vBox fT fN fS)).heap.size) := by show _ < _; simp
  have s1w : ((w1.setCell ⟨fb, n * 5 + 1, none⟩ (i64 (pc + 1))).alloc (vBox fT fN fS)).cell? ⟨a, i * 5 + 2, none⟩ = some (.slice (some ⟨sb, 0, none⟩) (q + 1 + x) scp) := ((below_one (w1.setCell ⟨fb, n * 5 + 1, none⟩ (i64 (pc + 1))) (vBox fT fN fS)).cell (p := ⟨a, i * 5 + 2, none⟩) (by simp only [size_set]; exact hlt2)).trans ((World.cell?_of_block (a := ⟨a, i * 5 + 2, none⟩) (Below.heap_setCell _ _ _ _ hna)).trans s1)
  clear eW s1 s6 s7 s8 f0 f3 fz1 hfb2 s3
  generalize (w1.setCell ⟨fb, n * 5 + 1, none⟩ (i64 (pc + 1))).alloc (vBox fT fN fS) = w4 at *
  obtain ⟨b0, b1, b2, bz⟩ := R4.val (b := w1.heap.size) (T := fT) (N := fN) (S := fS) (by simp)
  obtain ⟨own4, hv4, hN4, hX4⟩ := R4.vmX
  obtain ⟨k0, ek0, hk0, hal, hAV, hsa⟩ := hv4.args HKT.out.1 (q := q) (x := x) (by rw [HKT.out.2.1]; exact HH.out.2.2.2.2.1) s1w
  rw [HKT.out.2.1] at hal hAV
  rw [ek0]
  have HAV : Hid (AV w4.heap.size w4 (.slice (some ⟨sb, k0, none⟩) x x) ((M.t i).sk.drop (q + 1))) := hAV
  have hsl : sb < w4.heap.size := by obtain ⟨_, _, _, h1, h2, _⟩ := hAV; cases h1; exact h2
  clear hAV ek0
  have h6 := H6.out
  subst h6
  have hlt4 := hv4.alt
  have HKA : Hid (Alive (M.kk i) (some i)) := HK0.out
  clear hN4 hX4
  go_wp2_with fail
  go_loopw [14] (fun av wr => ∃ (l : List V) (ab k cap : Nat), av = .slice (some ⟨ab, k, none⟩) l.length cap ∧ l.length ≤ 3 ∧ Hid (AV w4.heap.size wr av l ∧ Below w4.heap.size w4 wr ∧ (∀ j : Nat, l[j]?.getD nilV = ((M.t i).sk.drop (q + 1))[j]?.getD nilV) ∧ ab ≠ a ∧ (ab = sb ∨ w4.heap.size ≤ ab) ∧ (∀ j : Nat, k + l.length * 3 ≤ (q + 1 + x) * 3 ∨ w4.heap.size ≤ ab))) (fun av _ => 10 - lenV av)
  case atStart => exact ⟨(M.t i).sk.drop (q + 1), sb, k0, x, by rw [hal], by omega, HAV.out, Below.refl _ _, fun _ => rfl, hsa, .inl rfl, fun _ => .inl (by rw [hal]; exact hk0)⟩
  case round =>
    obtain ⟨l, ab, k, cap, rfl, hl, HR⟩ := hrel
    by_cases hlt : l.length < 3
    · obtain ⟨av', w', happ, hav', ⟨b', cap', rfl, hge⟩, hbel⟩ := HR.out.1.grow HR.out.2.1.size (by omega) 53
      have dl : decide ((l.length : Int) < (3 : Int)) = true := decide_eq_true (by omega)
      have HREL : Hid (AV w4.heap.size w' (.slice (some ⟨b', 0, none⟩) (l.length + 1) cap') (l ++ [nilV]) ∧ Below w4.heap.size w4 w' ∧ (∀ j : Nat, (l ++ [nilV])[j]?.getD nilV = ((M.t i).sk.drop (q + 1))[j]?.getD nilV) ∧ b' ≠ a ∧ (b' = sb ∨ w4.heap.size ≤ b') ∧ (∀ j : Nat, 0 + (l ++ [nilV]).length * 3 ≤ (q + 1 + x) * 3 ∨ w4.heap.size ≤ b')) := by
        obtain ⟨_, h2, h3, h4, h5, h6⟩ := HR.out
        refine ⟨hav', h2.trans hbel, ?_, by omega, .inr hge, fun _ => .inr hge⟩
        intro j
        rw [← h3 j]
        by_cases cj : j < l.length
        · rw [List.getElem?_append_left cj]
        · by_cases ce : j = l.length
          · subst ce
            rw [List.getElem?_append_right (Nat.le_refl _), Nat.sub_self, List.getElem?_eq_none (Nat.le_refl _)]
            rfl
          · rw [List.getElem?_eq_none (by simp; omega), List.getElem?_eq_none (by omega)]
      have hll : (l ++ [nilV]).length = l.length + 1 := by simp
      have HLL : Hid ((l ++ [nilV]).length = l.length + 1) := hll
      clear hav' hbel hll HAV HR R4 hv4 HH HFN HKT HKA HK0 HO0
      go_wp2_with (at_builtin; refine wpList_append_eq rfl _ _ 53 rfl _ _ _ _ rfl rfl happ ?_)
      go_roundw
      case rel => exact ⟨l ++ [nilV], b', 0, cap', by rw [HLL.out], by rw [HLL.out]; omega, HREL⟩
      case measure => simp [lenV]; omega
    have hl3 : l.length = 3 := by omega
    have dl : decide ((l.length : Int) < (3 : Int)) = false := decide_eq_false (by omega)
    have hbw := HR.out.2.1
    have hlsz := hbw.size
    have b0 := (hbw.cell (p := ⟨w1.heap.size, 0, none⟩) HW4.out).trans b0
    have b1 := (hbw.cell (p := ⟨w1.heap.size, 1, none⟩) HW4.out).trans b1
    have b2 := (hbw.cell (p := ⟨w1.heap.size, 2, none⟩) HW4.out).trans b2
    have hw1r : w1.heap.size < wr.heap.size := Nat.lt_of_lt_of_le HW4.out hlsz
    have R5 := R4.below hbw
    have R6 := (R5.alloc (vBox 0 0 []) rfl).alloc (vBox 0 0 []) (n := wr.heap.size + 1) (by simp)
    obtain ⟨A0r, hab⟩ := HR.out.1.arg (j := 0) (by omega)
    obtain ⟨A1r, _⟩ := HR.out.1.arg (j := 1) (by omega)
    rw [HR.out.2.2.1 0, Nat.zero_mul, Nat.add_zero] at A0r
    rw [HR.out.2.2.1 1, Nat.one_mul] at A1r
    have hA := HH.out.2.1
    have vargs : ∀ v ∈ (M.t i).sk.drop (q + 1), okV M v := fun v hv => hA.skV hi v (List.mem_of_mem_drop hv)
    have va0 : okV (M.kk i) (((M.t i).sk.drop (q + 1))[0]?.getD nilV) := (arg_okV vargs 0).mono (Nat.le_refl _) (Nat.le_refl _) (by rw [HKL.out]; exact Nat.le_refl _)
    have va1 : okV (M.kk i) (((M.t i).sk.drop (q + 1))[1]?.getD nilV) := (arg_okV vargs 1).mono (Nat.le_refl _) (Nat.le_refl _) (by rw [HKL.out]; exact Nat.le_refl _)
    have hOB : Below wr.heap.size wr (box2 wr) := below_two (below_one _ _) (below_one _ _)
    have A0 : Arg (box2 wr) ab k (((M.t i).sk.drop (q + 1))[0]?.getD nilV) := by
      obtain ⟨x0, x1, x2⟩ := A0r
      exact ⟨(hOB.cell (p := ⟨ab, k, none⟩) hab).trans x0, (hOB.cell (p := ⟨ab, k + 1, none⟩) hab).trans x1, (hOB.cell (p := ⟨ab, k + 2, none⟩) hab).trans x2⟩
    have A1 : Arg (box2 wr) ab (k + 3) (((M.t i).sk.drop (q + 1))[1]?.getD nilV) := by
      obtain ⟨x0, x1, x2⟩ := A1r
      exact ⟨(hOB.cell (p := ⟨ab, k + 3, none⟩) hab).trans x0, (hOB.cell (p := ⟨ab, k + 3 + 1, none⟩) hab).trans x1, (hOB.cell (p := ⟨ab, k + 3 + 2, none⟩) hab).trans x2⟩
    have hat := arr_at ab k cap
    have hab2 : ab < (box2 wr).heap.size := by have := hOB.size; omega
    have habr := hab
    have HO0' : Hid (callP M i x = (if (((M.t i).sk.drop (q + 1))[0]?.getD nilV).T ≠ 7 then thr (M.kk i) noEv (str mCo) else if ((M.kk i).t (((M.t i).sk.drop (q + 1))[0]?.getD nilV).N).st = 1 ∨ ((M.kk i).t (((M.t i).sk.drop (q + 1))[0]?.getD nilV).N).st = 2 then ok (cutP ((M.kk i).setT i { (M.kk i).t i with st := 3 }) i q) ⟨4, (((M.t i).sk.drop (q + 1))[0]?.getD nilV).N, 0, (((M.t i).sk.drop (q + 1))[1]?.getD nilV), nilV⟩ else ok (pushP (cutP (M.kk i) i q) i [boolV false, str (stName ((M.kk i).t (((M.t i).sk.drop (q + 1))[0]?.getD nilV).N).st)]) noEv)) := by
      show _ = _
      rw [HO0.out]
      have e1 : (({ M with fuel := M.fuel - 1 } : Mc).t i).sk.length - x - 1 = q := by show (M.t i).sk.length - x - 1 = q; rw [HH.out.2.2.2.2.1]; omega
      have e2 : ((({ M with fuel := M.fuel - 1 } : Mc).t i).sk[q]?.getD nilV) = ⟨6, fN, fS⟩ := HFN.out.symm
      unfold callB
      simp only
      rw [e1, e2, HBN.out]
      rfl
    have H0 : Hid ((((M.t i).sk.drop (q + 1))[0]?.getD nilV).T = 7) := h0
    clear h0
    have HS : Hid (((M.kk i).t (((M.t i).sk.drop (q + 1))[0]?.getD nilV).N).st ≠ 1 ∧ ((M.kk i).t (((M.t i).sk.drop (q + 1))[0]?.getD nilV).N).st ≠ 2 ∧ ((M.kk i).t (((M.t i).sk.drop (q + 1))[0]?.getD nilV).N).st ≤ 5) := hs
    clear hs
    obtain ⟨v0, hv0⟩ : ∃ v, v = (((M.t i).sk.drop (q + 1))[0]?.getD nilV) := ⟨_, rfl⟩
    obtain ⟨v1, hv1⟩ : ∃ v, v = (((M.t i).sk.drop (q + 1))[1]?.getD nilV) := ⟨_, rfl⟩
    rw [← hv0] at A0r va0 HO0' H0 HS
    rw [← hv1] at A1r va1 HO0'
    clear hv0 hv1
    obtain ⟨T0, N0, S0⟩ := v0
    obtain ⟨T1, N1, S1⟩ := v1
    clear A0 A1
    obtain ⟨a00, a01, a02⟩ := A0r
    obtain ⟨a10, a11, a12⟩ := A1r
    simp only at a00 a01 a02 a10 a11 a12
    have haltr : a < wr.heap.size := by omega
    have hWr : W.heap.size < wr.heap.size := (R5.rn.box (b := W.heap.size) (o := zEv) (by simp)).2.2.1
    have HWR : Hid (W.heap.size < wr.heap.size) := hWr
    have HT7 : Hid (((M.kk i).t i).sk.length = q + 1 + x ∧ i < (M.kk i).th.length) := ⟨by rw [HKT.out.2.1]; exact HH.out.2.2.2.2.1, HKT.out.1⟩
    have hfN := HBN.out
    subst hfN
    obtain ⟨own5, hv5, _⟩ := R5.vm
    obtain ⟨t9, t5⟩ := hv5.c9V
    obtain ⟨_, _, qm⟩ := hv5.cellM (Below.refl _ _)
    have haba : ab ≠ a := HR.out.2.2.2.1
    have t7 : T0 = 7 := H0.out
    subst t7
    obtain ⟨hs1, hs2, hs5⟩ := HS.out
    have HO1 : Hid (callP M i x = ok (pushP (cutP (M.kk i) i q) i [⟨1, 0, []⟩, ⟨3, 0, stName ((M.kk i).t N0).st⟩]) noEv) := by rw [HO0'.out, if_neg (by simp), if_neg (fun h => by rcases h with h | h; exact HS.out.1 h; exact HS.out.2.1 h)]; rfl
    have hlt7 : N0 < (M.kk i).th.length := va0.co_lt rfl
    have hs7 := hv5.stE hlt7
    have HSN := fun W => stName_any ((M.kk i).t N0).st W hs5
    obtain ⟨tx, htx⟩ : ∃ tx, tx = stName ((M.kk i).t N0).st := ⟨_, rfl⟩
    rw [← htx] at HSN HO1
    have HO : Hid (callP M i x = ok (pushP (cutP (M.kk i) i q) i [⟨1, 0, []⟩, ⟨3, 0, tx⟩]) noEv) := HO1.out
    simp only at hs7 hs1 hs2
    obtain ⟨sx, hsx⟩ : ∃ sx, sx = ((M.kk i).t N0).st := ⟨_, rfl⟩
    rw [← hsx] at hs7 hs1 hs2 HSN
    have hx1 : ((sx : Int) == 1) = false := by rw [beq_eq_false_iff_ne]; omega
    have hx2 : ((sx : Int) == 2) = false := by rw [beq_eq_false_iff_ne]; omega
    clear htx hsx HO1 hs1 hs2 hs5
    have R6q0 : Hid (∀ nq, Rm own W m a nb tp i [(wr.heap.size + 1, vBox 0 0 []), (wr.heap.size, vBox 0 0 []), (w1.heap.size, vBox 6 9 fS), (W.heap.size, zEv)] (M.kk i) (((wr.alloc (.cells #[.int .i64 0, .int .u64 0, .string ⟨#[]⟩] 33)).alloc (.cells #[.int .i64 0, .int .u64 0, .string ⟨#[]⟩] 33)).drewN nq)) := fun nq => R6.below (below_drewN (Below.refl _ _) nq)
    obtain ⟨tl, hTL⟩ : ∃ tl, tl = (M.kk i).th.length := ⟨_, rfl⟩
    rw [← hTL] at hlt7 t9 t5
    have hlt' : (N0 : Int) < (tl : Int) := by omega
    clear hTL HS
    clear R6 hv4 hv5 va0 va1 vargs hA hOB HR HAV HH HFN HKT HKA HK0 HO0 HKL hbw HO0' R4 R5
    clear hsl hsa hk0 hal s1w hlt4 hlsz hpc9 hna hsbf
    go_wp2_with fail
    go_quiet (fail)
    have R6q := R6q0.out nq
    clear R6q0
    go_upto_region 32 with fail
    generalize ((wr.alloc (.cells #[.int .i64 0, .int .u64 0, .string ⟨#[]⟩] 33)).alloc (.cells #[.int .i64 0, .int .u64 0, .string ⟨#[]⟩] 33)).drewN nq = w6 at *
    have R8 : Rm own W m a nb tp i [(wr.heap.size + 1, vBox 3 0 tx), (wr.heap.size, vBox 1 0 []), (W.heap.size, zEv)] (M.kk i) ((((((w6.setCell ⟨wr.heap.size, 0, none⟩ (.int .i64 1)).setCell ⟨wr.heap.size, 1, none⟩ (.int .u64 0)).setCell ⟨wr.heap.size, 2, none⟩ (.string ⟨#[]⟩)).setCell ⟨wr.heap.size + 1, 0, none⟩ (.int .i64 3)).setCell ⟨wr.heap.size + 1, 1, none⟩ (.int .u64 0)).setCell ⟨wr.heap.size + 1, 2, none⟩ (.string ⟨tx.toArray⟩)) := R6q.set6 (n := wr.heap.size) (e := W.heap.size) (oe := zEv) (by simp) (by simp) (by simp) HWR.out ⟨1, 0, []⟩ ⟨3, 0, tx⟩
    obtain ⟨z0, z1, z2, zz⟩ := R6q.val (b := wr.heap.size) (T := 0) (N := 0) (S := []) (by simp)
    obtain ⟨y0, y1, y2, yy⟩ := R6q.val (b := wr.heap.size + 1) (T := 0) (N := 0) (S := []) (by simp)
    clear R6q
    go_wp2_with fail
    refine (HSN _).mono ?_; rintro e w0 ⟨rfl, h0⟩; have h0 := h0.symm; subst h0
    clear HSN
    go_upto_region 62 with fail
    clear z0 z1 z2 zz y0 y1 y2 yy
    generalize (((((w6.setCell ⟨wr.heap.size, 0, none⟩ (.int .i64 1)).setCell ⟨wr.heap.size, 1, none⟩ (.int .u64 0)).setCell ⟨wr.heap.size, 2, none⟩ (.string ⟨#[]⟩)).setCell ⟨wr.heap.size + 1, 0, none⟩ (.int .i64 3)).setCell ⟨wr.heap.size + 1, 1, none⟩ (.int .u64 0)).setCell ⟨wr.heap.size + 1, 2, none⟩ (.string ⟨tx.toArray⟩) = w8 at *
    obtain ⟨own8, hv8, _⟩ := R8.vm
    obtain ⟨ad8, scp8, t1, t2, t3, _⟩ := hv8.sk HT7.out.2
    rw [HT7.out.1] at t1 t2
    have R9 := R8.cutSk HT7.out.2 t1 q (by rw [HT7.out.1]; omega)
    have hq8 : q ≤ scp8 := by omega
    have halt8 := hv8.alt
    clear hv8 R8
    go_upto_region 63 with fail
    clear t1 t3
    generalize w8.setCell ⟨a, i * 5 + 2, none⟩ (.slice ad8 q scp8) = w9 at *
    obtain ⟨z0, z1, z2, zz⟩ := R9.val (b := wr.heap.size) (T := 1) (N := 0) (S := []) (by simp)
    obtain ⟨y0, y1, y2, yy⟩ := R9.val (b := wr.heap.size + 1) (T := 3) (N := 0) (S := tx) (by simp)
    have HPU := R9.push2 (by show i < (cutP (M.kk i) i q).th.length; unfold cutP; rw [th_setT]; exact HT7.out.2) (by rw [cut_t HT7.out.2]; show (((M.kk i).t i).sk.take q).length ≤ 20000; rw [List.length_take]; have := HT7.out.1; omega) ⟨1, 0, []⟩ ⟨3, 0, tx⟩
    clear R9
    go_wp2_with fail
    refine HPU.mono ?_; rintro e wx ⟨rfl, R5⟩
    obtain ⟨e60, e61, e62, e63, e64, e65, e66, e67, e68, z6⟩ := cells9 (R5.rn.box (b := W.heap.size) (o := zEv) (by simp)).1
    have HF : Hid (∀ x0 x1 x2 x3 x4 x5 x6 x7 x8, Nx own W m a nb tp (pushP (cutP (M.kk i) i q) i [⟨1, 0, []⟩, ⟨3, 0, tx⟩]) (putE wx W.heap.size x0 x1 x2 x3 x4 x5 x6 x7 x8)) := fun x0 x1 x2 x3 x4 x5 x6 x7 x8 => R5.rn.putE (by simp) x0 x1 x2 x3 x4 x5 x6 x7 x8
    clear HPU R5
    go_wp2_with fail
    refine bodyPost_ret (v := .agg #[.int .i64 0, .int .i64 0, .int .i64 0, .int .i64 0, .int .u64 0, .string ⟨#[]⟩, .int .i64 0, .int .u64 0, .string ⟨#[]⟩]) (by first | (simp [results, go_sem]; done) | (simp [results, go_sem, e60, e61, e62, e63, e64, e65, e66, e67, e68]; done)) rfl ?_
    rw [HO.out]
    exact .inl ⟨rfl, rfl, HF.out _ _ _ _ _ _ _ _ _⟩
set_option maxRecDepth 16000 in
set_option maxHeartbeats 2000000 in
theorem call_fuel {own : Nat → Nat} {W : World} {m a nb tp : Nat} {M : Mc} (HV : Vm own W m a nb tp M) {i : Nat} {fb n : Nat} (x : Nat) (hfu : M.fuel = 0) :
    Calls Tryz.prog 90 #[.pointer (some ⟨m, 0, none⟩), i64 i, .pointer (some ⟨a, i * 5, none⟩), .pointer (some ⟨fb, n * 5, none⟩), i64 x] W (OuEnd own W m a nb tp (callP M i x) evV) := by
  have HO : Hid (callP M i x = ⟨3, M, noEv, nilV, 9⟩) := by
    show _ = _
    unfold callP burnP
    rw [if_pos hfu]
    rfl
  have R1 : Rm own W m a nb tp i [(W.heap.size, zEv)] M (W.alloc zEv) := (Rm.start HV).alloc zEv rfl
  obtain ⟨own1, hv1, hN1, hO1⟩ := R1.vmO
  have HB := burn_f hv1 (by omega) i
  rw [show burnP M = trp M () 9 from if_pos hfu] at HB
  have HR : Hid (∀ e w, OuEf own1 (W.alloc zEv) m a nb tp i (trp M () 9) (fun _ => .tuple #[]) e w → OuEf own W m a nb tp i (trp M () 9) (fun _ => .tuple #[]) e w) := fun e w h => hO1 h
  clear HV hv1 hN1 hO1 R1 hfu
  go_enter Tryz.func90, Tryz.ntmps90
  go_wp2_with fail
  refine HB.mono ?_; rintro e w1 hE
  have hE1 := HR.out _ _ hE
  rcases hE with ⟨h, _⟩ | ⟨h, _⟩ | ⟨_, rfl, _⟩
  · cases h
  · cases h
  have HE : Hid (OuEnd own W m a nb tp ⟨3, M, noEv, nilV, 9⟩ evV (trapE 9) w1) := by
    rcases hE1 with ⟨h, _⟩ | ⟨h, _⟩ | ⟨_, _, h⟩
    · cases h
    · cases h
    · exact .inr (.inr ⟨rfl, rfl, h⟩)
  clear HB HR hE1
  go_wp2_with fail
  simp [bodyPost]
  rw [HO.out]
  exact HE.out
/-- call. -/
theorem call_any {own : Nat → Nat} {W : World} {m a nb tp : Nat} {M : Mc} (HV : Vm own W m a nb tp M) {i : Nat} (hA : Alive M (some i)) (hi : i < M.th.length) {fb n cp : Nat} (hfr : W.cell? ⟨a, i * 5 + 3, none⟩ = some (.slice (some ⟨fb, 0, none⟩) (n + 1) cp)) (hln : (M.t i).fr.length = n + 1) (x : Nat) (ht : testP M i 26 x = true) (hpc : (M.t i).f.pc < (M.p (M.t i).f.clo).nc) :
    Calls Tryz.prog 90 #[.pointer (some ⟨m, 0, none⟩), i64 i, .pointer (some ⟨a, i * 5, none⟩), .pointer (some ⟨fb, n * 5, none⟩), i64 x] W (OuEnd own W m a nb tp (callP M i x) evV) := by
  by_cases hfu : M.fuel = 0
  · exact call_fuel HV x hfu
  obtain ⟨r1, r2, r3, r4, r5, r6, r7⟩ := hA.runs hi
  unfold testP at ht
  simp only [Bool.and_eq_true, decide_eq_true_eq] at ht
  obtain ⟨hs, hn, hg⟩ := ht
  simp [soundP] at hs
  simp [effP] at hn hg
  obtain ⟨q, hq⟩ : ∃ q, (M.t i).sk.length = q + 1 + x := ⟨(M.t i).sk.length - x - 1, by omega⟩
  have hf : okV M ((M.t i).sk[q]?.getD nilV) := hA.at hi (by omega)
  have hK : Alive (M.kk i) (some i) := (hA.fuel (n := M.fuel - 1) (by omega)).setPc (i := i) hi ((M.t i).f.pc + 1) (by show _ ≤ (M.p (M.t i).f.clo).nc; omega)
  by_cases t5 : ((M.t i).sk[q]?.getD nilV).T = 5
  · by_cases h8 : n < 7
    · exact call_fun HV hA hi hfr hln x q hs hq hpc hfu t5 h8
    · exact call_deep HV hA hi hfr hln x q hs hq hpc hfu t5 (by omega)
  by_cases t6 : ((M.t i).sk[q]?.getD nilV).T = 6
  rotate_left
  · exact call_not HV hA hi hfr hln x q hs hq hpc hfu t5 t6
  have hN : 1 ≤ ((M.t i).sk[q]?.getD nilV).N ∧ ((M.t i).sk[q]?.getD nilV).N ≤ 11 := by
    have hw := hf.wfb
    unfold wfB at hw
    rw [t6] at hw
    simp at hw
    omega
  generalize hb : ((M.t i).sk[q]?.getD nilV).N = b at hN
  have hst5 : ∀ k, ((M.kk i).t k).st ≤ 5 := fun k => by
    by_cases hk : k < (M.kk i).th.length
    · exact (hK.th k hk).st.2
    · unfold Mc.t
      rw [List.getElem?_eq_none (by omega)]
      decide
  rcases (by omega : b = 1 ∨ b = 2 ∨ b = 3 ∨ b = 4 ∨ b = 5 ∨ b = 6 ∨ b = 7 ∨ b = 8 ∨ b = 9 ∨ b = 10 ∨ b = 11) with rfl | rfl | rfl | rfl | rfl | rfl | rfl | rfl | rfl | rfl | rfl
  · exact call_b1 HV hA hi hfr hln x q hs hq hpc hfu t6 hb
  · exact call_b2 HV hA hi hfr hln x q hs hq hpc hfu t6 hb
  · exact call_b3 HV hA hi hfr hln x q hs hq hpc hfu t6 hb
  · exact call_b4 HV hA hi hfr hln x q hs hq hpc hfu t6 hb
  · exact call_b5 HV hA hi hfr hln x q hs hq hpc hfu t6 hb
  · by_cases h0 : (((M.t i).sk.drop (q + 1))[0]?.getD nilV).T = 5
    · by_cases h8 : n < 7
      · exact call_p_ok HV hA hi hfr hln x q hs hq hpc hfu t6 hb h0 h8
      · exact call_p_deep HV hA hi hfr hln x q hs hq hpc hfu t6 hb h0 (by omega)
    · exact call_p_not HV hA hi hfr hln x q hs hq hpc hfu t6 hb h0
  · exact call_b7 HV hA hi hfr hln x q hs hq hpc hfu t6 hb
  · exact call_b8 HV hA hi hfr hln x q hs hq hpc hfu t6 hb
  · by_cases h0 : (((M.t i).sk.drop (q + 1))[0]?.getD nilV).T = 7
    · by_cases h1 : ((M.kk i).t (((M.t i).sk.drop (q + 1))[0]?.getD nilV).N).st = 1
      · exact call_r_go1 HV hA hi hfr hln x q hs hq hpc hfu t6 hb h0 h1
      by_cases h2 : ((M.kk i).t (((M.t i).sk.drop (q + 1))[0]?.getD nilV).N).st = 2
      · exact call_r_go2 HV hA hi hfr hln x q hs hq hpc hfu t6 hb h0 h2
      · exact call_r_else HV hA hi hfr hln x q hs hq hpc hfu t6 hb h0 ⟨h1, h2, hst5 _⟩
    · exact call_r_not HV hA hi hfr hln x q hs hq hpc hfu t6 hb h0
  · by_cases h0 : i = 0
    · exact call_y_not HV hA hi hfr hln x q hs hq hpc hfu t6 hb h0
    · exact call_y_go HV hA hi hfr hln x q hs hq hpc hfu t6 hb h0
  · exact call_b11 HV hA hi hfr hln x q hs hq hpc hfu t6 hb
end Go.Proofs.Qxb6500293aGreatRR
