/-
  plain walked: IFORNEXT.
-/
import Derived.Test.Qxb6500293aGreatRRY24
namespace Go.Proofs.Qxb6500293aGreatRR
open Go.RowKit
open Ieee (double)
set_option linter.unusedVariables false
set_option linter.unusedSimpArgs false

theorem set3_sk {M : Mc} {i : Nat} (hi : i < M.th.length) (x : Nat) (a b c : V) : setSlot (setSlot (setSlot M i (x + 1) a) i (x + 2) b) i (x + 3) c = skSet (skSet (skSet M i ((M.t i).f.base + x + 1) a) i ((M.t i).f.base + x + 2) b) i ((M.t i).f.base + x + 3) c := by
  have e1 : setSlot M i (x + 1) a = skSet M i ((M.t i).f.base + x + 1) a := rfl
  have hi1 : i < (skSet M i ((M.t i).f.base + x + 1) a).th.length := by rw [skSet_len]; exact hi
  have b1 : ((skSet M i ((M.t i).f.base + x + 1) a).t i).f.base = (M.t i).f.base := by rw [skSet_t hi]; rfl
  have e2 : setSlot (skSet M i ((M.t i).f.base + x + 1) a) i (x + 2) b = skSet (skSet M i ((M.t i).f.base + x + 1) a) i ((M.t i).f.base + x + 2) b := by
    show skSet _ i (((skSet M i ((M.t i).f.base + x + 1) a).t i).f.base + (x + 2)) b = _
    rw [b1]; rfl
  have b2 : ((skSet (skSet M i ((M.t i).f.base + x + 1) a) i ((M.t i).f.base + x + 2) b).t i).f.base = (M.t i).f.base := by rw [skSet_t hi1]; exact b1
  rw [e1, e2]
  show skSet _ i (((skSet (skSet M i ((M.t i).f.base + x + 1) a) i ((M.t i).f.base + x + 2) b).t i).f.base + (x + 3)) c = _
  rw [b2]; rfl
set_option maxRecDepth 16000 in
set_option maxHeartbeats 1000000 in
theorem plain_32 {own : Nat → Nat} {W : World} {m a nb tp : Nat} {M : Mc} (HV : Vm own W m a nb tp M) {i : Nat} (hi : i < M.th.length) {fb n pb P sl base ns kk clo : Nat} {ad : Option Addr} {scp : Nat} (hC : PlC W m a M i fb n pb P sl base ns kk clo ad scp) (x : Nat) (hx : x + 3 < ns) (h0 : (slot M i x).T = 4 → (slot M i x).N ≤ 9223372036854775807) (hok : (slot M i (x + 1)).Ok) :
    Calls Tryz.prog 92 #[.pointer (some ⟨m, 0, none⟩), i64 i, .pointer (some ⟨a, i * 5, none⟩), .pointer (some ⟨fb, n * 5, none⟩), .pointer (some ⟨pb, P * 8, none⟩), .int .u8 32, i64 x] W (OuEf own W m a nb tp i (plainP M i 32 x) (fun _ => .tuple #[])) := by
  have HHV : Hid (Vm own W m a nb tp M) := HV
  have HH0 : Hid (((slot M i x).T = 4 → (slot M i x).N ≤ 9223372036854775807) ∧ (slot M i (x + 1)).Ok) := ⟨h0, hok⟩
  have HO : Hid (plainP M i 32 x = nextW M i ((M.t i).f.base + x) (slot M i x) (slot M i (x + 1))) := by
    show forP M i 32 x = _
    unfold forP nextW
    simp only [show ¬ ((32 : Nat) = 30) by decide, show ¬ ((32 : Nat) = 31) by decide, if_false]
    split
    · rfl
    split
    · rfl
    · rw [set3_sk hi]
  clear h0 hok
  obtain ⟨s1, s2, f2, f0, p1, p4, hle, hs9, hk9, HE, fl, pl⟩ := hC
  have hne : ¬ scp = base := by omega
  obtain ⟨sb, scp', t1, t2, t3, t4, t5, tz, t6, t7, t8⟩ := HV.skE hi (k := base + x) (by rw [← HE.out.1]; omega)
  have hsb : ad = some ⟨sb, 0, none⟩ := by
    have e := s1.symm.trans t1
    injection e with e
    injection e with e1 e2 e3
  subst hsb
  have hval : (M.t i).sk[base + x]?.getD nilV = slot M i x := by rw [HE.out.2.1]; rfl
  rw [hval, Nat.add_mul] at t6 t7 t8
  obtain ⟨o400, o440, _, _⟩ := HV.col
  have hsa : sb ≠ a := by rintro rfl; omega
  have hsm : sb ≠ m := by rintro rfl; omega
  have HHC : Hid (∀ nq, (W.drewN nq).cell? ⟨a, i * 5 + 2, none⟩ = some (.slice (some ⟨sb, 0, none⟩) sl scp) ∧ ∀ k, (W.drewN nq).frozen? ⟨sb, k, none⟩ = false) := fun nq => ⟨s1, tz⟩
  clear t1 t2 hval
  obtain ⟨v, hv⟩ : ∃ v, v = slot M i x := ⟨_, rfl⟩
  rw [← hv] at t6 t7 t8
  have HVV : Hid (v = slot M i x) := hv
  clear hv
  obtain ⟨vT, vN, vS⟩ := v
  simp only at t6 t7 t8
  obtain ⟨sb2, scp2, a1, a2, a3, a4, hwin⟩ := HV.win4 hi (k := base + x) (by rw [← HE.out.1]; omega)
  have hsb2 : sb2 = sb := by
    have e := a1.symm.trans s1
    injection e with e
    injection e with e1 e2 e3
    injection e1 with e1
    injection e1
  subst hsb2
  rw [HE.out.2.1] at hwin
  have hwin : Win4 W sb2 ((M.t i).f.base * 3 + x * 3) (slot M i x) (slot M i (x + 1)) (slot M i (x + 2)) (slot M i (x + 3)) := by rw [← Nat.add_mul]; exact hwin
  rw [← HE.out.2.1] at hwin
  clear a1 a2 a3 a4
  go_enter Tryz.func92, Tryz.ntmps92
  go_wp2_with fail
  go_quiet (fail)
  rw [Nat.add_sub_cancel_left]
  have R0 : Rm own W m a nb tp i [] M (W.drewN nq) := (Rm.start HHV.out).below (below_drewN (Below.refl _ _) _)
  have g2 : (W.drewN nq).cell? ⟨fb, n * 5 + 2, none⟩ = some (i64 base) := f2
  have g0 : (W.drewN nq).cell? ⟨fb, n * 5, none⟩ = some (i64 clo) := f0
  have gl : fb < (W.drewN nq).heap.size := fl
  have hcq : (W.drewN nq).cell? ⟨a, i * 5 + 3, none⟩ = W.cell? ⟨a, i * 5 + 3, none⟩ := rfl
  have u1 : (W.drewN nq).cell? ⟨a, i * 5 + 2, none⟩ = some (.slice (some ⟨sb2, 0, none⟩) sl scp) := s1
  have u6 : (W.drewN nq).cell? ⟨sb2, base * 3 + x * 3, none⟩ = some (.int .i64 vT) := t6
  have u7 : (W.drewN nq).cell? ⟨sb2, base * 3 + x * 3 + 1, none⟩ = some (.int .u64 (vN : Int)) := t7
  have u8 : (W.drewN nq).cell? ⟨sb2, base * 3 + x * 3 + 2, none⟩ = some (.string ⟨vS.toArray⟩) := t8
  have ul : sb2 < (W.drewN nq).heap.size := t3
  have hwq : Win4 (W.drewN nq) sb2 (base * 3 + x * 3) (slot M i x) (slot M i (x + 1)) (slot M i (x + 2)) (slot M i (x + 3)) := ⟨hwin.lt, hwin.c0, hwin.c1, hwin.c2, hwin.c3⟩
  clear s1 f2 f0 p1 p4 fl pl t6 t7 t8 t3
  have HCC := HHC.out nq
  have HCC' : Hid ((W.drewN nq).cell? ⟨a, i * 5 + 2, none⟩ = some (.slice (some ⟨sb2, 0, none⟩) sl scp) ∧ ∀ k, (W.drewN nq).frozen? ⟨sb2, k, none⟩ = false) := HCC
  clear HCC HHC
  generalize W.drewN nq = w0 at *
  have HSL : Hid (sl = (M.t i).sk.length) := HE.out.1
  obtain ⟨qa0, qa1, qam⟩ := R0.rn.cellM
  obtain ⟨own0, hv0, hn0, ho0⟩ := R0.vmO
  rw [← Nat.add_mul] at hwq
  have HF := forNext (cp := scp - base - x) hv0 hi (by have := HSL.out; omega) HCC'.out.1 (k := base + x) (by have := HSL.out; omega) hwq HCC'.out.2 hsa hsm HH0.out.1 HH0.out.2
  rw [Nat.add_mul] at HF
  have HN0 : Hid (∀ en w', OuEf own0 w0 m a nb tp i (nextW M i (base + x) (slot M i x) (slot M i (x + 1))) (fun _ => .tuple #[]) en w' → OuEf own W m a nb tp i (nextW M i (base + x) (slot M i x) (slot M i (x + 1))) (fun _ => .tuple #[]) en w') := fun en w' h => ho0 h
  have HO : Hid (plainP M i 32 x = nextW M i (base + x) (slot M i x) (slot M i (x + 1))) := by rw [HE.out.2.1]; exact HO.out
  have hx4 : x + 4 ≤ scp - base := by omega
  have hx5 : ¬ scp - base = x := by omega
  clear hv0 hn0 ho0 R0 HV tz HVV u6 u7 u8 ul g0 g2 u1 hwin hwq HCC' HH0
  go_wp2_with fail
  refine HF.mono ?_; rintro e w5 hE
  have HE5 : Hid (OuEf own W m a nb tp i (nextW M i (base + x) (slot M i x) (slot M i (x + 1))) (fun _ => .tuple #[]) e w5) := HN0.out _ _ hE
  clear HN0 HF
  rcases hE with ⟨_, rfl, _⟩ | ⟨_, ⟨bb, rfl, _, _⟩, _⟩ | ⟨_, rfl, _⟩
  · go_wp2_with fail
    go_end0
    rw [HO.out]
    exact HE5.out
  · go_wp2_with fail
    simp [bodyPost]
    rw [HO.out]
    exact HE5.out
  · go_wp2_with fail
    simp [bodyPost]
    rw [HO.out]
    exact HE5.out
end Go.Proofs.Qxb6500293aGreatRR
