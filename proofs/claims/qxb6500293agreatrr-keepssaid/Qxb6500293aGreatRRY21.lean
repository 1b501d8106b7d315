/-
  plain walked: ISETI.
-/
import Derived.Test.Qxb6500293aGreatRRY20
import Derived.StillTailTactics
namespace Go.Proofs.Qxb6500293aGreatRR
open Go.RowKit
open Ieee (double)
set_option linter.unusedVariables false
set_option linter.unusedSimpArgs false

set_option maxRecDepth 16000 in
set_option maxHeartbeats 1000000 in
theorem plain_13 {own : Nat → Nat} {W : World} {m a nb tp : Nat} {M : Mc} (HV : Vm own W m a nb tp M) {i : Nat} (hi : i < M.th.length) {fb n pb P sl base ns kk clo : Nat} {ad : Option Addr} {scp : Nat} (hC : PlC W m a M i fb n pb P sl base ns kk clo ad scp) (x : Nat) (hx : x < 65536) (h1 : 2 ≤ (M.t i).sk.length) (hok : (topP M i).Ok) (hok2 : (numV (fl x)).Ok) (h4 : (topP (dropP M i) i).T = 4 → (topP (dropP M i) i).N ≤ 9223372036854775807) :
    Calls Tryz.prog 92 #[.pointer (some ⟨m, 0, none⟩), i64 i, .pointer (some ⟨a, i * 5, none⟩), .pointer (some ⟨fb, n * 5, none⟩), .pointer (some ⟨pb, P * 8, none⟩), .int .u8 13, i64 x] W (OuEf own W m a nb tp i (plainP M i 13 x) (fun _ => .tuple #[])) := by
  have HHV : Hid (Vm own W m a nb tp M) := HV
  have HO1 : Hid (plainP M i 13 x = if (topP (dropP M i) i).T ≠ 4 then thr (dropP M i) () (str mIndex) else storeP (dropP M i) ((topP (dropP M i) i).N : Int) (numV (fl x)) (topP M i)) := rfl
  obtain ⟨v, hv⟩ : ∃ v, v = topP M i := ⟨_, rfl⟩
  obtain ⟨u, hu⟩ : ∃ u, u = topP (dropP M i) i := ⟨_, rfl⟩
  rw [← hv, ← hu] at HO1
  have HT : Hid (topP M i = v ∧ topP (dropP M i) i = u) := ⟨hv.symm, hu.symm⟩
  rw [← hv] at hok
  rw [← hu] at h4
  have HFI : Hid (∀ p w, Calls Tryz.prog 45 #[p, .int .i64 (x : Int)] w fun e' w' => e' = .returned (.int .u64 (fl x : Nat)) ∧ w' = w) := fun p w => fromInt_nat p x w (by omega)
  unfold numV at HO1 hok2
  generalize fl x = fx at *
  have HOK : Hid (v.Ok ∧ (⟨2, fx, []⟩ : V).Ok) := ⟨hok, hok2⟩
  clear hv hu hok hok2
  obtain ⟨vT, vN, vS⟩ := v
  obtain ⟨uT, uN, uS⟩ := u
  simp only at h4
  obtain ⟨hi1, hl1⟩ := drop_len hi
  have HH4 : Hid (uT = 4 → uN ≤ 9223372036854775807) := h4
  clear h4
  obtain ⟨s1, s2, f2, f0, p1, p4, hle, hs9, hk9, HE, fl, pl⟩ := hC
  go_enter Tryz.func92, Tryz.ntmps92
  go_wp2_with fail
  go_quiet (fail)
  rw [Nat.add_sub_cancel_left]
  generalize (if scp = base then ad else Option.map (fun x => x.add (base * 3)) ad) = adx
  have R0 : Rm own W m a nb tp i [] M (W.drewN nq) := (Rm.start HHV.out).below (below_drewN (Below.refl _ _) _)
  have g2 : (W.drewN nq).cell? ⟨fb, n * 5 + 2, none⟩ = some (i64 base) := f2
  have g0 : (W.drewN nq).cell? ⟨fb, n * 5, none⟩ = some (i64 clo) := f0
  have gl : fb < (W.drewN nq).heap.size := fl
  have hcq : (W.drewN nq).cell? ⟨a, i * 5 + 3, none⟩ = W.cell? ⟨a, i * 5 + 3, none⟩ := rfl
  clear s1 f2 f0 p1 p4 fl pl
  generalize W.drewN nq = w0 at *
  have HSL : Hid (sl = (M.t i).sk.length) := HE.out.1
  obtain ⟨qa0, qa1, qam⟩ := R0.rn.cellM
  have HP := R0.pop hi (by omega) (by have := HSL.out; omega)
  rw [HT.out.1, valV_mk] at HP
  clear R0 g0 g2
  go_wp2_with fail
  refine HP.mono ?_; rintro e w1 ⟨rfl, R1'⟩
  have R1 := (R1'.alloc (vBox vT vN vS) rfl).below (below_drewN (Below.refl _ _) 1)
  obtain ⟨own9, hv9, _⟩ := R1'.vm
  obtain ⟨q, hq⟩ : ∃ q, ((dropP M i).t i).sk.length = q + 1 := ⟨((dropP M i).t i).sk.length - 1, by omega⟩
  obtain ⟨sb, sc, s1, s2', s3, _, _, _, s6, s7, s8⟩ := hv9.skE hi1 (k := q) (by omega)
  obtain ⟨hm9, ha9⟩ : m < w1.heap.size ∧ a < w1.heap.size := by
    obtain ⟨vals, L, H⟩ := hv9
    exact ⟨H.mlt, H.alt⟩
  have hu1 : ((dropP M i).t i).sk[q]?.getD nilV = ⟨uT, uN, uS⟩ := by
    rw [← HT.out.2]; unfold topP; rw [hq]; rfl
  rw [hu1] at s6 s7 s8
  rw [hq] at s1 s2'
  have hq9 : q < 20000 := by have := HSL.out; omega
  simp only at s6 s7 s8
  clear R1' HP hv9 hu1 hq
  have hb1 : (q : Int) < (q : Int) + 1 := by omega
  by_cases t4 : uT = 4
  · have HO : Hid (plainP M i 13 x = storeP (dropP M i) (uN : Int) ⟨2, fx, []⟩ ⟨vT, vN, vS⟩) := by rw [HO1.out]; exact if_neg (by simp [t4])
    have HTO := fun W => tabOf_ok ⟨uT, uN, uS⟩ mIndex W t4 (HH4.out t4)
    rw [valV_mk] at HTO
    unfold mIndex at HTO
    subst t4
    clear HO1 HH4
    go_wp2_with fail
    refine region_tail 12 (by kernel_rfl) (by kernel_rfl) ?_
    simp only [List.take_succ_cons, List.take_zero, List.drop_succ_cons, List.drop_zero]
    repeat (refine wpStill_step (fun K hK => ?_); go_simp; (try go_bits); refine hK _ ?_; clear hK K)
    refine wpStill_nil ?_
    go_wp2_with fail
    refine (HTO _).mono ?_; rintro e w4 ⟨rfl, hb4⟩
    have R4 := R1.below hb4
    obtain ⟨y0, y1, y2, _⟩ := R4.val (b := w1.heap.size) (T := vT) (N := vN) (S := vS) (by simp)
    obtain ⟨z0, z1, _⟩ := R4.rn.cellM
    obtain ⟨own4, hv4, hn4, ho4⟩ := R4.vmO
    have HST := store_any hv4 uN ⟨2, fx, []⟩ ⟨vT, vN, vS⟩ HOK.out.2 HOK.out.1 i
    rw [valV_mk, valV_mk] at HST
    have HF := HFI.out (.pointer (some ⟨nb, 0, none⟩)) w4
    clear hb4 HTO R1 hv4
    go_wp2_with fail
    refine HF.mono ?_; rintro e w4' ⟨rfl, rfl⟩
    go_wp2_with fail
    refine HST.mono ?_; rintro e w5 hE
    have HE5 : Hid (OuEf own W m a nb tp i (storeP (dropP M i) (uN : Int) ⟨2, fx, []⟩ ⟨vT, vN, vS⟩) (fun _ => .tuple #[]) e w5) := ho4 hE
    clear R4 hn4 ho4 HST y0 y1 y2 z0 z1
    rcases hE with ⟨_, rfl, _⟩ | ⟨_, ⟨bb, rfl, _, _⟩, _⟩ | ⟨_, rfl, _⟩
    · go_wp2_with fail
      go_end0
      rw [HO.out]
      exact HE5.out
    · go_wp2_with fail
      simp [bodyPost]
      rw [HO.out]
      exact HE5.out
    · go_wp2_with fail
      simp [bodyPost]
      rw [HO.out]
      exact HE5.out
  · have HO : Hid (plainP M i 13 x = thr (dropP M i) () (str [105, 110, 100, 101, 120])) := by rw [HO1.out]; exact if_pos t4
    have HTO := fun W => tabOf_thr ⟨uT, uN, uS⟩ mIndex W t4
    rw [valV_mk] at HTO
    unfold mIndex at HTO
    clear HO1 HH4 t4
    go_wp2_with fail
    refine region_tail 12 (by kernel_rfl) (by kernel_rfl) ?_
    simp only [List.take_succ_cons, List.take_zero, List.drop_succ_cons, List.drop_zero]
    repeat (refine wpStill_step (fun K hK => ?_); go_simp; (try go_bits); refine hK _ ?_; clear hK K)
    refine wpStill_nil ?_
    go_wp2_with fail
    refine (HTO _).mono ?_; rintro e w4 ht
    obtain ⟨bb, rfl, ht2, ht3, ht4⟩ := ht
    have HE4 : Hid (OuEf own W m a nb tp i (thr (dropP M i) () (str [105, 110, 100, 101, 120])) (fun _ => .tuple #[]) (thrE bb) w4) := R1.thrown ⟨bb, rfl, ht2, ht3, ht4⟩
    clear ht2 ht3 ht4 R1 HTO
    go_wp2_with fail
    simp [bodyPost]
    rw [HO.out]
    exact HE4.out
end Go.Proofs.Qxb6500293aGreatRR
