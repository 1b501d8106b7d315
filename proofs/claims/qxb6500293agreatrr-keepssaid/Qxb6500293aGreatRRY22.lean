/-
  plain walked: constants, globals stored, ISETI.
-/
import Derived.Test.Qxb6500293aGreatRRY23
import Derived.StillTailTactics
namespace Go.Proofs.Qxb6500293aGreatRR
open Go.RowKit
open Ieee (double)
set_option linter.unusedVariables false
set_option linter.unusedSimpArgs false

set_option maxRecDepth 16000 in
set_option maxHeartbeats 8000000 in
theorem plain_9 {own : Nat → Nat} {W : World} {m a nb tp : Nat} {M : Mc} (HV : Vm own W m a nb tp M) {i : Nat} (hi : i < M.th.length) {fb n pb P sl base ns kk clo : Nat} {ad : Option Addr} {scp : Nat} (hC : PlC W m a M i fb n pb P sl base ns kk clo ad scp) (x : Nat) (hkx : kk + x < M.ks.length) (hx : x < 65536) (hkok : (M.ks[(M.p (M.t i).f.clo).k + x]?.getD nilV).Ok) :
    Calls Tryz.prog 92 #[.pointer (some ⟨m, 0, none⟩), i64 i, .pointer (some ⟨a, i * 5, none⟩), .pointer (some ⟨fb, n * 5, none⟩), .pointer (some ⟨pb, P * 8, none⟩), .int .u8 9, i64 x] W (OuEf own W m a nb tp i (plainP M i 9 x) (fun _ => .tuple #[])) := by
  have HHV : Hid (Vm own W m a nb tp M) := HV
  have HO1 : Hid (plainP M i 9 x = ok (pushP M i [(getP M.tb 0 (M.ks[(M.p (M.t i).f.clo).k + x]?.getD nilV)).1]) ()) := rfl
  have HTP : Hid ((M.ks[(M.p (M.t i).f.clo).k + x]?.getD nilV).Ok) := hkok
  clear hkok
  obtain ⟨s1, s2, f2, f0, p1, p4, hle, hs9, hk9, HE, fl, pl⟩ := hC
  obtain ⟨kb, kcp, k1, k2, k3, k4, k5, k6, k7⟩ := HV.ksE (k := kk + x) hkx
  rw [Nat.add_mul] at k5 k6 k7
  obtain ⟨o400, o440, hma, _⟩ := HV.col
  have hka : kb ≠ a := by rintro rfl; omega
  obtain ⟨kv, hkv⟩ : ∃ kv, kv = M.ks[kk + x]?.getD nilV := ⟨_, rfl⟩
  rw [← hkv] at k5 k6 k7
  have HKV : Hid (kv = M.ks[(M.p (M.t i).f.clo).k + x]?.getD nilV) := by rw [← HE.out.2.2.2.1]; exact hkv
  clear hkv
  obtain ⟨kT, kN, kS⟩ := kv
  simp only at k5 k6 k7
  have hwk : IntKind.i64.wrap ((kk : Int) + (x : Int)) = ((kk + x : Nat) : Int) := by rw [IntWalk.i64_in _ ⟨by omega, by omega⟩, Int.natCast_add]
  generalize hKL : M.ks.length = kl at *
  have HKL : Hid (M.ks.length = kl) := hKL
  clear hKL
  go_enter Tryz.func92, Tryz.ntmps92
  go_wp2_with fail
  go_quiet (fail)
  rw [Nat.add_sub_cancel_left]
  generalize (if scp = base then ad else Option.map (fun x => x.add (base * 3)) ad) = adx
  have R0 : Rm own W m a nb tp i [] M (W.drewN nq) := (Rm.start HHV.out).below (below_drewN (Below.refl _ _) _)
  have g2 : (W.drewN nq).cell? ⟨fb, n * 5 + 2, none⟩ = some (i64 base) := f2
  have g0 : (W.drewN nq).cell? ⟨fb, n * 5, none⟩ = some (i64 clo) := f0
  have gl : fb < (W.drewN nq).heap.size := fl
  have hcq : (W.drewN nq).cell? ⟨a, i * 5 + 3, none⟩ = W.cell? ⟨a, i * 5 + 3, none⟩ := rfl
  have v1 : (W.drewN nq).cell? ⟨m, 4, none⟩ = some (.slice (some ⟨kb, 0, none⟩) kl kcp) := k1
  have v5 : (W.drewN nq).cell? ⟨kb, kk * 3 + x * 3, none⟩ = some (.int .i64 kT) := k5
  have v6 : (W.drewN nq).cell? ⟨kb, kk * 3 + x * 3 + 1, none⟩ = some (.int .u64 (kN : Int)) := k6
  have v7 : (W.drewN nq).cell? ⟨kb, kk * 3 + x * 3 + 2, none⟩ = some (.string ⟨kS.toArray⟩) := k7
  have v4 : (W.drewN nq).cell? ⟨pb, P * 8 + 4, none⟩ = some (i64 kk) := p4
  have vl : kb < (W.drewN nq).heap.size := k3
  have pbl : pb < (W.drewN nq).heap.size := pl
  clear s1 f2 f0 p1 p4 fl pl k1 k5 k6 k7 k3
  generalize W.drewN nq = w0 at *
  have HSL : Hid (sl = (M.t i).sk.length) := HE.out.1
  obtain ⟨qa0, qa1, qam⟩ := R0.rn.cellM
  have HKO : Hid ((⟨kT, kN, kS⟩ : V).Ok) := by show V.Ok _; rw [HKV.out]; exact HTP.out
  obtain ⟨⟨⟨gT, gN, gS⟩, ge⟩, hg⟩ : ∃ g, getP M.tb 0 ⟨kT, kN, kS⟩ = g := ⟨_, rfl⟩
  have HO : Hid (plainP M i 9 x = ok (pushP M i [⟨gT, gN, gS⟩]) ()) := by rw [HO1.out, ← HKV.out, hg]; exact rfl
  have e13 : kk * 3 + x * 3 = (kk + x) * 3 := by rw [Nat.add_mul]
  rw [e13] at v5 v6 v7
  have RA : Rm own W m a nb tp i [] M w0.drew := R0.below (below_drewN (Below.refl _ _) 1)
  have RB : Rm own W m a nb tp i ((w0.heap.size, vBox 0 0 []) :: []) M (w0.alloc (.cells #[.int .i64 0, .int .u64 0, .string ⟨#[]⟩] 33)).drew := (R0.alloc (vBox 0 0 []) rfl).below (below_drewN (Below.refl _ _) 1)
  have HGET : Hid (∀ B w, Rm own W m a nb tp i B M w → Calls Tryz.prog 105 #[.pointer (some ⟨tp, 0, none⟩), .int .i64 0, .agg #[.int .i64 kT, .int .u64 (kN : Int), .string ⟨kS.toArray⟩]] w fun e w' => e = .returned (.tuple #[.agg #[.int .i64 gT, .int .u64 (gN : Int), .string ⟨gS.toArray⟩], .int .i64 ge]) ∧ Rm own W m a nb tp i B M w') := by
    intro B w h
    have h1 := h.get 0 ⟨kT, kN, kS⟩ HKO.out
    rw [hg, valV_mk, valV_mk] at h1
    exact h1
  have hbd1 : (0 : Int) ≤ (kk : Int) + (x : Int) := by omega
  have hbd2 : (kk : Int) + (x : Int) < (kl : Int) := by omega
  have hbd3 : ((kk : Int) + (x : Int)).toNat = kk + x := by omega
  have HSK : Hid ((M.t i).sk.length ≤ 20000) := by show _ ≤ _; have := HSL.out; omega
  clear HV R0 HO1 e13 g0 g2 HKV HTP hg HKO
  go_wp2_with fail
  go_region_with (go_at_call 105; refine (HGET.out _ _ (by with_reducible first | exact RA | exact RB)).mono ?_; rintro e w2 ⟨rfl, R2⟩; first | (have HPU := (R2 : Rm own W m a nb tp i [(w0.heap.size, vBox 0 0 [])] M w2).push3 hi HSK.out (b := w0.heap.size) (by simp) gT gN gS; obtain ⟨y0, y1, y2, yf⟩ := R2.val (b := w0.heap.size) (T := 0) (N := 0) (S := []) (by simp); have yf0 := yf 0; have yf1 := yf 1; have yf2 := yf 2; clear yf R2) | (have HPU := ((R2 : Rm own W m a nb tp i [] M w2).alloc (vBox gT gN gS) rfl).rn.weak.push rfl hi HSK.out gT gN gS (n := w2.heap.size + 1) (by simp); clear R2))
  all_goals
    clear RA RB HGET
    go_wp2_with fail
    refine HPU.mono ?_; rintro e w9 ⟨rfl, hN⟩
    have HN : Hid (Nf own W m a nb tp i (pushP M i [⟨gT, gN, gS⟩]) w9) := hN
    clear hN HPU
    go_wp2_with fail
    go_end0
    rw [HO.out]
    exact .inl ⟨rfl, rfl, HN.out⟩
end Go.Proofs.Qxb6500293aGreatRR
