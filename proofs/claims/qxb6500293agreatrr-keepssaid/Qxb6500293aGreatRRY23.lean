/-
  plain walked: constants, globals stored, ISETI.
-/
import Derived.Test.Qxb6500293aGreatRRY21
import Derived.StillTailTactics
namespace Go.Proofs.Qxb6500293aGreatRR
open Go.RowKit
open Ieee (double)
set_option linter.unusedVariables false
set_option linter.unusedSimpArgs false

/-- A table's value, looked up in the midst of a walk. -/
theorem Rm.get {own : Nat → Nat} {W w : World} {m a nb tp i : Nat} {B : List (Nat × Obj)} {M : Mc} (h : Rm own W m a nb tp i B M w) (t : Int) (k : V) (hk : k.Ok) :
    Calls Tryz.prog 105 #[.pointer (some ⟨tp, 0, none⟩), .int .i64 t, valV k] w fun e w' => e = .returned (.tuple #[valV (getP M.tb t k).1, .int .i64 (getP M.tb t k).2]) ∧ Rm own W m a nb tp i B M w' := by
  obtain ⟨own1, hv, hN⟩ := h.vm
  refine (rget own1 tp M.tb t k w hv.tabR.1 hv.tabR.2.1 hk).mono ?_
  rintro e w2 ⟨rfl, hb⟩
  exact ⟨rfl, h.below hb⟩
set_option maxRecDepth 16000 in
set_option maxHeartbeats 1000000 in
theorem plain_11 {own : Nat → Nat} {W : World} {m a nb tp : Nat} {M : Mc} (HV : Vm own W m a nb tp M) {i : Nat} (hi : i < M.th.length) {fb n pb P sl base ns kk clo : Nat} {ad : Option Addr} {scp : Nat} (hC : PlC W m a M i fb n pb P sl base ns kk clo ad scp) (x : Nat) (h1 : 2 ≤ (M.t i).sk.length) (hok : (topP M i).Ok) (h4 : (topP (dropP M i) i).T = 4 → (topP (dropP M i) i).N ≤ 9223372036854775807) :
    Calls Tryz.prog 92 #[.pointer (some ⟨m, 0, none⟩), i64 i, .pointer (some ⟨a, i * 5, none⟩), .pointer (some ⟨fb, n * 5, none⟩), .pointer (some ⟨pb, P * 8, none⟩), .int .u8 11, i64 x] W (OuEf own W m a nb tp i (plainP M i 11 x) (fun _ => .tuple #[])) := by
  have HHV : Hid (Vm own W m a nb tp M) := HV
  have HO1 : Hid (plainP M i 11 x = if (topP (dropP M i) i).T ≠ 4 then thr (dropP (dropP M i) i) () (str mIndex) else ok (pushP (dropP (dropP M i) i) i [(getP M.tb ((topP (dropP M i) i).N : Int) (topP M i)).1]) ()) := rfl
  obtain ⟨k, hk⟩ : ∃ k, k = topP M i := ⟨_, rfl⟩
  obtain ⟨u, hu⟩ : ∃ u, u = topP (dropP M i) i := ⟨_, rfl⟩
  rw [← hk, ← hu] at HO1
  have HT : Hid (topP M i = k ∧ topP (dropP M i) i = u) := ⟨hk.symm, hu.symm⟩
  rw [← hk] at hok
  rw [← hu] at h4
  have HKO : Hid (k.Ok) := hok
  clear hk hu hok
  obtain ⟨kT, kN, kS⟩ := k
  obtain ⟨uT, uN, uS⟩ := u
  simp only at h4
  obtain ⟨hi1, hl1⟩ := drop_len hi
  obtain ⟨hi2, hl2⟩ := drop_len hi1
  have HH4 : Hid (uT = 4 → uN ≤ 9223372036854775807) := h4
  obtain ⟨⟨⟨gT, gN, gS⟩, ge⟩, hg⟩ : ∃ g, getP M.tb (uN : Int) ⟨kT, kN, kS⟩ = g := ⟨_, rfl⟩
  have HG : Hid (getP (dropP (dropP M i) i).tb (uN : Int) ⟨kT, kN, kS⟩ = ((⟨gT, gN, gS⟩ : V), ge)) := hg
  simp only at HO1
  rw [hg] at HO1
  clear h4 hg
  obtain ⟨s1, s2, f2, f0, p1, p4, hle, hs9, hk9, HE, fl, pl⟩ := hC
  go_enter Tryz.func92, Tryz.ntmps92
  go_wp2_with fail
  go_quiet (fail)
  rw [Nat.add_sub_cancel_left]
  generalize (if scp = base then ad else Option.map (fun x => x.add (base * 3)) ad) = adx
  have R0 : Rm own W m a nb tp i [] M (W.drewN nq) := (Rm.start HHV.out).below (below_drewN (Below.refl _ _) _)
  have g2 : (W.drewN nq).cell? ⟨fb, n * 5 + 2, none⟩ = some (i64 base) := f2
  have g0 : (W.drewN nq).cell? ⟨fb, n * 5, none⟩ = some (i64 clo) := f0
  have gl : fb < (W.drewN nq).heap.size := fl
  have hcq : (W.drewN nq).cell? ⟨a, i * 5 + 3, none⟩ = W.cell? ⟨a, i * 5 + 3, none⟩ := rfl
  clear s1 f2 f0 p1 p4 fl pl
  generalize W.drewN nq = w0 at *
  have HSL : Hid (sl = (M.t i).sk.length) := HE.out.1
  obtain ⟨qa0, qa1, qam⟩ := R0.rn.cellM
  have HP := R0.pop hi (by omega) (by have := HSL.out; omega)
  rw [HT.out.1, valV_mk] at HP
  have HSK : Hid (((dropP (dropP M i) i).t i).sk.length ≤ 20000) := by show _ ≤ _; have := HSL.out; omega
  clear R0 g0 g2
  go_wp2_with fail
  refine HP.mono ?_; rintro e w1 ⟨rfl, R1'⟩
  have R1 := R1'.alloc (vBox kT kN kS) rfl
  have HP2 := R1.pop hi1 (by omega) (by have := HSL.out; omega)
  rw [HT.out.2, valV_mk] at HP2
  clear R1' HP R1
  go_wp2_with fail
  refine HP2.mono ?_; rintro e w2 ⟨rfl, R2'⟩
  have R2 := R2'.alloc (vBox uT uN uS) rfl
  clear R2' HP2
  by_cases t4 : uT = 4
  · have HO : Hid (plainP M i 11 x = ok (pushP (dropP (dropP M i) i) i [⟨gT, gN, gS⟩]) ()) := by rw [HO1.out]; exact if_neg (by simp [t4])
    have HTO := fun W => tabOf_ok ⟨uT, uN, uS⟩ mIndex W t4 (HH4.out t4)
    rw [valV_mk] at HTO
    unfold mIndex at HTO
    subst t4
    clear HO1 HH4
    go_wp2_with fail
    refine (HTO _).mono ?_; rintro e w3 ⟨rfl, hb3⟩
    have R0 := R2.below hb3
    obtain ⟨z0, z1, z2, _⟩ := R0.val (b := w1.heap.size) (T := kT) (N := kN) (S := kS) (by simp)
    obtain ⟨q0, q1, qm3⟩ := R0.rn.cellM
    have hw1 : w1.heap.size < w3.heap.size := (R0.rn.box (b := w1.heap.size) (o := vBox kT kN kS) (by simp)).2.2.1
    have hg := HG.out
    have RA : Rm own W m a nb tp i [(w2.heap.size, vBox 4 uN uS), (w1.heap.size, vBox kT kN kS)] (dropP (dropP M i) i) w3.drew := R0.below (below_drewN (Below.refl _ _) 1)
    have RB : Rm own W m a nb tp i ((w3.heap.size, vBox 0 0 []) :: [(w2.heap.size, vBox 4 uN uS), (w1.heap.size, vBox kT kN kS)]) (dropP (dropP M i) i) (w3.alloc (.cells #[.int .i64 0, .int .u64 0, .string ⟨#[]⟩] 33)).drew := (R0.alloc (vBox 0 0 []) rfl).below (below_drewN (Below.refl _ _) 1)
    have HGET : Hid (∀ B w, Rm own W m a nb tp i B (dropP (dropP M i) i) w → Calls Tryz.prog 105 #[.pointer (some ⟨tp, 0, none⟩), .int .i64 uN, .agg #[.int .i64 kT, .int .u64 (kN : Int), .string ⟨kS.toArray⟩]] w fun e w' => e = .returned (.tuple #[.agg #[.int .i64 gT, .int .u64 (gN : Int), .string ⟨gS.toArray⟩], .int .i64 ge]) ∧ Rm own W m a nb tp i B (dropP (dropP M i) i) w') := by
      intro B w h
      have h1 := h.get uN ⟨kT, kN, kS⟩ HKO.out
      rw [hg, valV_mk, valV_mk] at h1
      exact h1
    clear R0 hg HG HKO HTO R2 hb3
    go_wp2_with fail
    go_region_with (go_at_call 105; refine (HGET.out _ _ (by with_reducible first | exact RA | exact RB)).mono ?_; rintro e w4 ⟨rfl, R4⟩; first | (have HPU := (R4 : Rm own W m a nb tp i [(w3.heap.size, vBox 0 0 []), (w2.heap.size, vBox 4 uN uS), (w1.heap.size, vBox kT kN kS)] (dropP (dropP M i) i) w4).push3 hi2 HSK.out (b := w3.heap.size) (by simp) gT gN gS; obtain ⟨y0, y1, y2, yf⟩ := R4.val (b := w3.heap.size) (T := 0) (N := 0) (S := []) (by simp); have yf0 := yf 0; have yf1 := yf 1; have yf2 := yf 2; clear yf R4) | (have HPU := ((R4 : Rm own W m a nb tp i [(w2.heap.size, vBox 4 uN uS), (w1.heap.size, vBox kT kN kS)] (dropP (dropP M i) i) w4).alloc (vBox gT gN gS) rfl).rn.weak.push rfl hi2 HSK.out gT gN gS (n := w4.heap.size + 1) (by simp); clear R4))
    all_goals
      clear RA RB HGET
      go_wp2_with fail
      refine HPU.mono ?_; rintro e w9 ⟨rfl, hN⟩
      have HN : Hid (Nf own W m a nb tp i (pushP (dropP (dropP M i) i) i [⟨gT, gN, gS⟩]) w9) := hN
      clear hN HPU
      go_wp2_with fail
      go_end0
      rw [HO.out]
      exact .inl ⟨rfl, rfl, HN.out⟩
  · have HO : Hid (plainP M i 11 x = thr (dropP (dropP M i) i) () (str [105, 110, 100, 101, 120])) := by rw [HO1.out]; exact if_pos t4
    have HTO := fun W => tabOf_thr ⟨uT, uN, uS⟩ mIndex W t4
    rw [valV_mk] at HTO
    unfold mIndex at HTO
    clear HO1 HH4 t4
    go_wp2_with fail
    refine (HTO _).mono ?_; rintro e w4 ht
    obtain ⟨bb, rfl, ht2, ht3, ht4⟩ := ht
    have HE4 : Hid (OuEf own W m a nb tp i (thr (dropP (dropP M i) i) () (str [105, 110, 100, 101, 120])) (fun _ => .tuple #[]) (thrE bb) w4) := R2.thrown ⟨bb, rfl, ht2, ht3, ht4⟩
    clear ht2 ht3 ht4 R2 HTO
    go_wp2_with fail
    simp [bodyPost]
    rw [HO.out]
    exact HE4.out
end Go.Proofs.Qxb6500293aGreatRR
