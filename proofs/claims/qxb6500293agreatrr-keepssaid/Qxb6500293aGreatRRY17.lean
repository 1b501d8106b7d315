/-
  plain walked: the instructions whose regions draw nothing but the head's.
-/
import Derived.Test.Qxb6500293aGreatRRY16
namespace Go.Proofs.Qxb6500293aGreatRR
open Go.RowKit
open Ieee (double)
set_option linter.unusedVariables false
set_option linter.unusedSimpArgs false

set_option maxRecDepth 16000 in
set_option maxHeartbeats 1000000 in
theorem plain_2 {own : Nat → Nat} {W : World} {m a nb tp : Nat} {M : Mc} (HV : Vm own W m a nb tp M) {i : Nat} (hi : i < M.th.length) {fb n pb P sl base ns kk clo : Nat} {ad : Option Addr} {scp : Nat} (hC : PlC W m a M i fb n pb P sl base ns kk clo ad scp) (x : Nat) :
    Calls Tryz.prog 92 #[.pointer (some ⟨m, 0, none⟩), i64 i, .pointer (some ⟨a, i * 5, none⟩), .pointer (some ⟨fb, n * 5, none⟩), .pointer (some ⟨pb, P * 8, none⟩), .int .u8 2, i64 x] W (OuEf own W m a nb tp i (plainP M i 2 x) (fun _ => .tuple #[])) := by
  have HHV : Hid (Vm own W m a nb tp M) := HV
  have HO : Hid (plainP M i 2 x = ok (pushP M i [⟨0, 0, []⟩]) ()) := rfl
  obtain ⟨s1, s2, f2, f0, p1, p4, hle, hs9, hk9, HE, fl, pl⟩ := hC
  go_enter Tryz.func92, Tryz.ntmps92
  go_wp2_with fail
  go_quiet (fail)
  rw [Nat.add_sub_cancel_left]
  generalize (if scp = base then ad else Option.map (fun x => x.add (base * 3)) ad) = adx
  have R0 : Rm own W m a nb tp i [] M (W.drewN nq) := (Rm.start HHV.out).below (below_drewN (Below.refl _ _) _)
  have g2 : (W.drewN nq).cell? ⟨fb, n * 5 + 2, none⟩ = some (i64 base) := f2
  have g0 : (W.drewN nq).cell? ⟨fb, n * 5, none⟩ = some (i64 clo) := f0
  have gl : fb < (W.drewN nq).heap.size := fl
  have hcq : (W.drewN nq).cell? ⟨a, i * 5 + 3, none⟩ = W.cell? ⟨a, i * 5 + 3, none⟩ := rfl
  clear s1 f2 f0 p1 p4 fl pl
  generalize W.drewN nq = w0 at *
  have HSL : Hid (sl = (M.t i).sk.length) := HE.out.1
  obtain ⟨qa0, qa1, qam⟩ := R0.rn.cellM
  have HPU := R0.rn.weak.push rfl hi (by have := HSL.out; omega) 0 0 [] (n := w0.heap.size) rfl
  clear R0
  go_wp2_with fail
  refine HPU.mono ?_; rintro e w9 ⟨rfl, hN⟩
  have HN : Hid (Nf own W m a nb tp i (pushP M i [⟨0, 0, []⟩]) w9) := hN
  clear hN HPU
  go_wp2_with fail
  go_end0
  rw [HO.out]
  exact .inl ⟨rfl, rfl, HN.out⟩
set_option maxRecDepth 16000 in
set_option maxHeartbeats 1000000 in
theorem plain_3 {own : Nat → Nat} {W : World} {m a nb tp : Nat} {M : Mc} (HV : Vm own W m a nb tp M) {i : Nat} (hi : i < M.th.length) {fb n pb P sl base ns kk clo : Nat} {ad : Option Addr} {scp : Nat} (hC : PlC W m a M i fb n pb P sl base ns kk clo ad scp) (x : Nat) :
    Calls Tryz.prog 92 #[.pointer (some ⟨m, 0, none⟩), i64 i, .pointer (some ⟨a, i * 5, none⟩), .pointer (some ⟨fb, n * 5, none⟩), .pointer (some ⟨pb, P * 8, none⟩), .int .u8 3, i64 x] W (OuEf own W m a nb tp i (plainP M i 3 x) (fun _ => .tuple #[])) := by
  have HHV : Hid (Vm own W m a nb tp M) := HV
  have HO : Hid (plainP M i 3 x = ok (pushP M i [⟨1, 1, []⟩]) ()) := rfl
  obtain ⟨s1, s2, f2, f0, p1, p4, hle, hs9, hk9, HE, fl, pl⟩ := hC
  go_enter Tryz.func92, Tryz.ntmps92
  go_wp2_with fail
  go_quiet (fail)
  rw [Nat.add_sub_cancel_left]
  generalize (if scp = base then ad else Option.map (fun x => x.add (base * 3)) ad) = adx
  have R0 : Rm own W m a nb tp i [] M (W.drewN nq) := (Rm.start HHV.out).below (below_drewN (Below.refl _ _) _)
  have g2 : (W.drewN nq).cell? ⟨fb, n * 5 + 2, none⟩ = some (i64 base) := f2
  have g0 : (W.drewN nq).cell? ⟨fb, n * 5, none⟩ = some (i64 clo) := f0
  have gl : fb < (W.drewN nq).heap.size := fl
  have hcq : (W.drewN nq).cell? ⟨a, i * 5 + 3, none⟩ = W.cell? ⟨a, i * 5 + 3, none⟩ := rfl
  clear s1 f2 f0 p1 p4 fl pl
  generalize W.drewN nq = w0 at *
  have HSL : Hid (sl = (M.t i).sk.length) := HE.out.1
  obtain ⟨qa0, qa1, qam⟩ := R0.rn.cellM
  have HPU := R0.rn.weak.push rfl hi (by have := HSL.out; omega) 1 1 [] (n := w0.heap.size) rfl
  clear R0
  go_wp2_with fail
  refine HPU.mono ?_; rintro e w9 ⟨rfl, hN⟩
  have HN : Hid (Nf own W m a nb tp i (pushP M i [⟨1, 1, []⟩]) w9) := hN
  clear hN HPU
  go_wp2_with fail
  go_end0
  rw [HO.out]
  exact .inl ⟨rfl, rfl, HN.out⟩
set_option maxRecDepth 16000 in
set_option maxHeartbeats 1000000 in
theorem plain_4 {own : Nat → Nat} {W : World} {m a nb tp : Nat} {M : Mc} (HV : Vm own W m a nb tp M) {i : Nat} (hi : i < M.th.length) {fb n pb P sl base ns kk clo : Nat} {ad : Option Addr} {scp : Nat} (hC : PlC W m a M i fb n pb P sl base ns kk clo ad scp) (x : Nat) :
    Calls Tryz.prog 92 #[.pointer (some ⟨m, 0, none⟩), i64 i, .pointer (some ⟨a, i * 5, none⟩), .pointer (some ⟨fb, n * 5, none⟩), .pointer (some ⟨pb, P * 8, none⟩), .int .u8 4, i64 x] W (OuEf own W m a nb tp i (plainP M i 4 x) (fun _ => .tuple #[])) := by
  have HHV : Hid (Vm own W m a nb tp M) := HV
  have HO : Hid (plainP M i 4 x = ok (pushP M i [⟨1, 0, []⟩]) ()) := rfl
  obtain ⟨s1, s2, f2, f0, p1, p4, hle, hs9, hk9, HE, fl, pl⟩ := hC
  go_enter Tryz.func92, Tryz.ntmps92
  go_wp2_with fail
  go_quiet (fail)
  rw [Nat.add_sub_cancel_left]
  generalize (if scp = base then ad else Option.map (fun x => x.add (base * 3)) ad) = adx
  have R0 : Rm own W m a nb tp i [] M (W.drewN nq) := (Rm.start HHV.out).below (below_drewN (Below.refl _ _) _)
  have g2 : (W.drewN nq).cell? ⟨fb, n * 5 + 2, none⟩ = some (i64 base) := f2
  have g0 : (W.drewN nq).cell? ⟨fb, n * 5, none⟩ = some (i64 clo) := f0
  have gl : fb < (W.drewN nq).heap.size := fl
  have hcq : (W.drewN nq).cell? ⟨a, i * 5 + 3, none⟩ = W.cell? ⟨a, i * 5 + 3, none⟩ := rfl
  clear s1 f2 f0 p1 p4 fl pl
  generalize W.drewN nq = w0 at *
  have HSL : Hid (sl = (M.t i).sk.length) := HE.out.1
  obtain ⟨qa0, qa1, qam⟩ := R0.rn.cellM
  have HPU := R0.rn.weak.push rfl hi (by have := HSL.out; omega) 1 0 [] (n := w0.heap.size) rfl
  clear R0
  go_wp2_with fail
  refine HPU.mono ?_; rintro e w9 ⟨rfl, hN⟩
  have HN : Hid (Nf own W m a nb tp i (pushP M i [⟨1, 0, []⟩]) w9) := hN
  clear hN HPU
  go_wp2_with fail
  go_end0
  rw [HO.out]
  exact .inl ⟨rfl, rfl, HN.out⟩
set_option maxRecDepth 16000 in
set_option maxHeartbeats 1000000 in
theorem plain_25 {own : Nat → Nat} {W : World} {m a nb tp : Nat} {M : Mc} (HV : Vm own W m a nb tp M) {i : Nat} (hi : i < M.th.length) {fb n pb P sl base ns kk clo : Nat} {ad : Option Addr} {scp : Nat} (hC : PlC W m a M i fb n pb P sl base ns kk clo ad scp) (x : Nat) (h1 : 1 ≤ (M.t i).sk.length) :
    Calls Tryz.prog 92 #[.pointer (some ⟨m, 0, none⟩), i64 i, .pointer (some ⟨a, i * 5, none⟩), .pointer (some ⟨fb, n * 5, none⟩), .pointer (some ⟨pb, P * 8, none⟩), .int .u8 25, i64 x] W (OuEf own W m a nb tp i (plainP M i 25 x) (fun _ => .tuple #[])) := by
  have HHV : Hid (Vm own W m a nb tp M) := HV
  have HO : Hid (plainP M i 25 x = ok (dropP M i) ()) := rfl
  obtain ⟨s1, s2, f2, f0, p1, p4, hle, hs9, hk9, HE, fl, pl⟩ := hC
  go_enter Tryz.func92, Tryz.ntmps92
  go_wp2_with fail
  go_quiet (fail)
  rw [Nat.add_sub_cancel_left]
  generalize (if scp = base then ad else Option.map (fun x => x.add (base * 3)) ad) = adx
  have R0 : Rm own W m a nb tp i [] M (W.drewN nq) := (Rm.start HHV.out).below (below_drewN (Below.refl _ _) _)
  have g2 : (W.drewN nq).cell? ⟨fb, n * 5 + 2, none⟩ = some (i64 base) := f2
  have g0 : (W.drewN nq).cell? ⟨fb, n * 5, none⟩ = some (i64 clo) := f0
  have gl : fb < (W.drewN nq).heap.size := fl
  have hcq : (W.drewN nq).cell? ⟨a, i * 5 + 3, none⟩ = W.cell? ⟨a, i * 5 + 3, none⟩ := rfl
  clear s1 f2 f0 p1 p4 fl pl
  generalize W.drewN nq = w0 at *
  have HSL : Hid (sl = (M.t i).sk.length) := HE.out.1
  obtain ⟨qa0, qa1, qam⟩ := R0.rn.cellM
  have HP := R0.pop hi h1 (by have := HSL.out; omega)
  clear R0
  go_wp2_with fail
  refine HP.mono ?_; rintro e w1 ⟨rfl, R1⟩
  have HN : Hid (Nf own W m a nb tp i (dropP M i) w1) := R1.rn.nf rfl
  clear R1 HP
  go_wp2_with fail
  go_end0
  rw [HO.out]
  exact .inl ⟨rfl, rfl, HN.out⟩
set_option maxRecDepth 16000 in
set_option maxHeartbeats 1000000 in
theorem plain_7 {own : Nat → Nat} {W : World} {m a nb tp : Nat} {M : Mc} (HV : Vm own W m a nb tp M) {i : Nat} (hi : i < M.th.length) {fb n pb P sl base ns kk clo : Nat} {ad : Option Addr} {scp : Nat} (hC : PlC W m a M i fb n pb P sl base ns kk clo ad scp) (x : Nat) (hu : UpOk M (M.t i).f.clo x) :
    Calls Tryz.prog 92 #[.pointer (some ⟨m, 0, none⟩), i64 i, .pointer (some ⟨a, i * 5, none⟩), .pointer (some ⟨fb, n * 5, none⟩), .pointer (some ⟨pb, P * 8, none⟩), .int .u8 7, i64 x] W (OuEf own W m a nb tp i (plainP M i 7 x) (fun _ => .tuple #[])) := by
  have HHV : Hid (Vm own W m a nb tp M) := HV
  have HO : Hid (plainP M i 7 x = ok (pushP M i [upP M (M.t i).f.clo x]) ()) := rfl
  obtain ⟨u, hu'⟩ : ∃ u, u = upP M (M.t i).f.clo x := ⟨_, rfl⟩
  rw [← hu'] at HO
  have HU : Hid (UpOk M (M.t i).f.clo x ∧ u = upP M (M.t i).f.clo x) := ⟨hu, hu'⟩
  obtain ⟨uT, uN, uS⟩ := u
  clear hu hu'
  obtain ⟨s1, s2, f2, f0, p1, p4, hle, hs9, hk9, HE, fl, pl⟩ := hC
  go_enter Tryz.func92, Tryz.ntmps92
  go_wp2_with fail
  go_quiet (fail)
  rw [Nat.add_sub_cancel_left]
  generalize (if scp = base then ad else Option.map (fun x => x.add (base * 3)) ad) = adx
  have R0 : Rm own W m a nb tp i [] M (W.drewN nq) := (Rm.start HHV.out).below (below_drewN (Below.refl _ _) _)
  have g2 : (W.drewN nq).cell? ⟨fb, n * 5 + 2, none⟩ = some (i64 base) := f2
  have g0 : (W.drewN nq).cell? ⟨fb, n * 5, none⟩ = some (i64 clo) := f0
  have gl : fb < (W.drewN nq).heap.size := fl
  have hcq : (W.drewN nq).cell? ⟨a, i * 5 + 3, none⟩ = W.cell? ⟨a, i * 5 + 3, none⟩ := rfl
  clear s1 f2 f0 p1 p4 fl pl
  generalize W.drewN nq = w0 at *
  have HSL : Hid (sl = (M.t i).sk.length) := HE.out.1
  obtain ⟨qa0, qa1, qam⟩ := R0.rn.cellM
  obtain ⟨own0, hv0, _⟩ := R0.vm
  have HGU := getUp_any hv0 HU.out.1 (fb := fb) (fo := n * 5) (by rw [← HE.out.2.2.2.2.1]; exact g0) gl
  rw [← HU.out.2, valV_mk] at HGU
  clear hv0
  go_wp2_with fail
  refine HGU.mono ?_; rintro e w1 ⟨rfl, hb1⟩
  have R1 := (R0.below hb1).alloc (vBox uT uN uS) rfl
  have HPU := R1.rn.weak.push rfl hi (by have := HSL.out; omega) uT uN uS (n := w1.heap.size + 1) (by simp)
  clear hb1 R0 HGU
  clear R1
  go_wp2_with fail
  refine HPU.mono ?_; rintro e w9 ⟨rfl, hN⟩
  have HN : Hid (Nf own W m a nb tp i (pushP M i [⟨uT, uN, uS⟩]) w9) := hN
  clear hN HPU
  go_wp2_with fail
  go_end0
  rw [HO.out]
  exact .inl ⟨rfl, rfl, HN.out⟩
set_option maxRecDepth 16000 in
set_option maxHeartbeats 1000000 in
theorem plain_8 {own : Nat → Nat} {W : World} {m a nb tp : Nat} {M : Mc} (HV : Vm own W m a nb tp M) {i : Nat} (hi : i < M.th.length) {fb n pb P sl base ns kk clo : Nat} {ad : Option Addr} {scp : Nat} (hC : PlC W m a M i fb n pb P sl base ns kk clo ad scp) (x : Nat) (hu : UpOk (dropP M i) (M.t i).f.clo x) (h1 : 1 ≤ (M.t i).sk.length) {cp : Nat} (hfr : W.cell? ⟨a, i * 5 + 3, none⟩ = some (.slice (some ⟨fb, 0, none⟩) (n + 1) cp)) (hfa : (M.t i).fr[n]? = some (M.t i).f) :
    Calls Tryz.prog 92 #[.pointer (some ⟨m, 0, none⟩), i64 i, .pointer (some ⟨a, i * 5, none⟩), .pointer (some ⟨fb, n * 5, none⟩), .pointer (some ⟨pb, P * 8, none⟩), .int .u8 8, i64 x] W (OuEf own W m a nb tp i (plainP M i 8 x) (fun _ => .tuple #[])) := by
  have HHV : Hid (Vm own W m a nb tp M) := HV
  have HO : Hid (plainP M i 8 x = ok (setUpP (dropP M i) (M.t i).f.clo x (topP M i)) ()) := rfl
  obtain ⟨v, hv'⟩ : ∃ v, v = topP M i := ⟨_, rfl⟩
  rw [← hv'] at HO
  have HU : Hid (UpOk (dropP M i) (M.t i).f.clo x ∧ topP M i = v) := ⟨hu, hv'.symm⟩
  obtain ⟨vT, vN, vS⟩ := v
  clear hu hv'
  obtain ⟨hi1, _⟩ := drop_len hi
  have HFA : Hid ((M.t i).fr[n]? = some (M.t i).f) := hfa
  clear hfa
  have HFR : Hid (((dropP M i).t i).fr = (M.t i).fr) := by show _ = _; rw [drop_t hi]
  obtain ⟨s1, s2, f2, f0, p1, p4, hle, hs9, hk9, HE, fl, pl⟩ := hC
  go_enter Tryz.func92, Tryz.ntmps92
  go_wp2_with fail
  go_quiet (fail)
  rw [Nat.add_sub_cancel_left]
  generalize (if scp = base then ad else Option.map (fun x => x.add (base * 3)) ad) = adx
  have R0 : Rm own W m a nb tp i [] M (W.drewN nq) := (Rm.start HHV.out).below (below_drewN (Below.refl _ _) _)
  have g2 : (W.drewN nq).cell? ⟨fb, n * 5 + 2, none⟩ = some (i64 base) := f2
  have g0 : (W.drewN nq).cell? ⟨fb, n * 5, none⟩ = some (i64 clo) := f0
  have gl : fb < (W.drewN nq).heap.size := fl
  have hcq : (W.drewN nq).cell? ⟨a, i * 5 + 3, none⟩ = W.cell? ⟨a, i * 5 + 3, none⟩ := rfl
  clear s1 f2 f0 p1 p4 fl pl
  generalize W.drewN nq = w0 at *
  have HSL : Hid (sl = (M.t i).sk.length) := HE.out.1
  obtain ⟨qa0, qa1, qam⟩ := R0.rn.cellM
  have HP := R0.pop hi h1 (by have := HSL.out; omega)
  rw [HU.out.2, valV_mk] at HP
  clear R0 g0 g2
  go_wp2_with fail
  refine HP.mono ?_; rintro e w1 ⟨rfl, R1'⟩
  have R1 := R1'.alloc (vBox vT vN vS) rfl
  obtain ⟨own1, hv1, hn1⟩ := R1.vm
  have hc1 : (w1.alloc (vBox vT vN vS)).cell? ⟨a, i * 5 + 3, none⟩ = some (.slice (some ⟨fb, 0, none⟩) (n + 1) cp) := R1.rn.frs.trans hfr
  obtain ⟨_, l1, _, _, k0, _⟩ := hv1.frame hi1 hc1 (j := n) (f := (M.t i).f) (by rw [HFR.out]; exact HFA.out)
  have HSU := setUp_any hv1 HU.out.1 (fb := fb) (fo := n * 5) k0 l1 ⟨vT, vN, vS⟩ i
  rw [valV_mk] at HSU
  clear R1' HP k0 hv1 hc1 l1
  go_wp2_with fail
  refine HSU.mono ?_; rintro e w2 ⟨rfl, hN⟩
  have R2 := hn1 _ _ hN
  have HN : Hid (Nf own W m a nb tp i (setUpP (dropP M i) (M.t i).f.clo x ⟨vT, vN, vS⟩) w2) := R2.rn.nf rfl
  clear R1 R2 hn1 hN HSU
  go_wp2_with fail
  go_end0
  rw [HO.out]
  exact .inl ⟨rfl, rfl, HN.out⟩
set_option maxRecDepth 16000 in
set_option maxHeartbeats 1000000 in
theorem plain_12 {own : Nat → Nat} {W : World} {m a nb tp : Nat} {M : Mc} (HV : Vm own W m a nb tp M) {i : Nat} (hi : i < M.th.length) {fb n pb P sl base ns kk clo : Nat} {ad : Option Addr} {scp : Nat} (hC : PlC W m a M i fb n pb P sl base ns kk clo ad scp) (x : Nat) (h1 : 3 ≤ (M.t i).sk.length) (hok : (topP M i).Ok) (hok2 : (topP (dropP M i) i).Ok) (h4 : (topP (dropP (dropP M i) i) i).T = 4 → (topP (dropP (dropP M i) i) i).N ≤ 9223372036854775807) :
    Calls Tryz.prog 92 #[.pointer (some ⟨m, 0, none⟩), i64 i, .pointer (some ⟨a, i * 5, none⟩), .pointer (some ⟨fb, n * 5, none⟩), .pointer (some ⟨pb, P * 8, none⟩), .int .u8 12, i64 x] W (OuEf own W m a nb tp i (plainP M i 12 x) (fun _ => .tuple #[])) := by
  have HHV : Hid (Vm own W m a nb tp M) := HV
  have HO1 : Hid (plainP M i 12 x = if (topP (dropP (dropP M i) i) i).T ≠ 4 then thr (dropP (dropP (dropP M i) i) i) () (str mIndex) else storeP (dropP (dropP (dropP M i) i) i) ((topP (dropP (dropP M i) i) i).N : Int) (topP (dropP M i) i) (topP M i)) := rfl
  obtain ⟨v, hv⟩ : ∃ v, v = topP M i := ⟨_, rfl⟩
  obtain ⟨k, hk⟩ : ∃ k, k = topP (dropP M i) i := ⟨_, rfl⟩
  obtain ⟨u, hu⟩ : ∃ u, u = topP (dropP (dropP M i) i) i := ⟨_, rfl⟩
  rw [← hv, ← hk, ← hu] at HO1
  have HT : Hid (topP M i = v ∧ topP (dropP M i) i = k ∧ topP (dropP (dropP M i) i) i = u) := ⟨hv.symm, hk.symm, hu.symm⟩
  rw [← hv] at hok
  rw [← hk] at hok2
  rw [← hu] at h4
  have HOK : Hid (v.Ok ∧ k.Ok) := ⟨hok, hok2⟩
  clear hv hk hu hok hok2
  obtain ⟨vT, vN, vS⟩ := v
  obtain ⟨kT, kN, kS⟩ := k
  obtain ⟨uT, uN, uS⟩ := u
  simp only at h4
  obtain ⟨hi1, hl1⟩ := drop_len hi
  obtain ⟨hi2, hl2⟩ := drop_len hi1
  obtain ⟨hi3, hl3⟩ := drop_len hi2
  have HH4 : Hid (uT = 4 → uN ≤ 9223372036854775807) := h4
  clear h4
  obtain ⟨s1, s2, f2, f0, p1, p4, hle, hs9, hk9, HE, fl, pl⟩ := hC
  go_enter Tryz.func92, Tryz.ntmps92
  go_wp2_with fail
  go_quiet (fail)
  rw [Nat.add_sub_cancel_left]
  generalize (if scp = base then ad else Option.map (fun x => x.add (base * 3)) ad) = adx
  have R0 : Rm own W m a nb tp i [] M (W.drewN nq) := (Rm.start HHV.out).below (below_drewN (Below.refl _ _) _)
  have g2 : (W.drewN nq).cell? ⟨fb, n * 5 + 2, none⟩ = some (i64 base) := f2
  have g0 : (W.drewN nq).cell? ⟨fb, n * 5, none⟩ = some (i64 clo) := f0
  have gl : fb < (W.drewN nq).heap.size := fl
  have hcq : (W.drewN nq).cell? ⟨a, i * 5 + 3, none⟩ = W.cell? ⟨a, i * 5 + 3, none⟩ := rfl
  clear s1 f2 f0 p1 p4 fl pl
  generalize W.drewN nq = w0 at *
  have HSL : Hid (sl = (M.t i).sk.length) := HE.out.1
  obtain ⟨qa0, qa1, qam⟩ := R0.rn.cellM
  have HP := R0.pop hi (by omega) (by have := HSL.out; omega)
  rw [HT.out.1, valV_mk] at HP
  clear R0 g0 g2
  go_wp2_with fail
  refine HP.mono ?_; rintro e w1 ⟨rfl, R1'⟩
  have R1 := R1'.alloc (vBox vT vN vS) rfl
  have HP2 := R1.pop hi1 (by omega) (by have := HSL.out; omega)
  rw [HT.out.2.1, valV_mk] at HP2
  clear R1' HP R1
  go_wp2_with fail
  refine HP2.mono ?_; rintro e w2 ⟨rfl, R2'⟩
  have R2 := R2'.alloc (vBox kT kN kS) rfl
  have HP3 := R2.pop hi2 (by omega) (by have := HSL.out; omega)
  rw [HT.out.2.2, valV_mk] at HP3
  clear R2' HP2 R2
  go_wp2_with fail
  refine HP3.mono ?_; rintro e w3 ⟨rfl, R3'⟩
  have R3 := R3'.alloc (vBox uT uN uS) rfl
  clear R3' HP3
  by_cases t4 : uT = 4
  · have HO : Hid (plainP M i 12 x = storeP (dropP (dropP (dropP M i) i) i) (uN : Int) ⟨kT, kN, kS⟩ ⟨vT, vN, vS⟩) := by rw [HO1.out]; exact if_neg (by simp [t4])
    have HTO := fun W => tabOf_ok ⟨uT, uN, uS⟩ mIndex W t4 (HH4.out t4)
    rw [valV_mk] at HTO
    unfold mIndex at HTO
    subst t4
    clear HO1 HH4
    go_wp2_with fail
    refine (HTO _).mono ?_; rintro e w4 ⟨rfl, hb4⟩
    have R4 := R3.below hb4
    obtain ⟨y0, y1, y2, _⟩ := R4.val (b := w1.heap.size) (T := vT) (N := vN) (S := vS) (by simp)
    obtain ⟨z0, z1, z2, _⟩ := R4.val (b := w2.heap.size) (T := kT) (N := kN) (S := kS) (by simp)
    obtain ⟨own4, hv4, hn4, ho4⟩ := R4.vmO
    have HST := store_any hv4 uN ⟨kT, kN, kS⟩ ⟨vT, vN, vS⟩ HOK.out.2 HOK.out.1 i
    rw [valV_mk, valV_mk] at HST
    clear hb4 HTO R3 hv4
    go_wp2_with fail
    refine HST.mono ?_; rintro e w5 hE
    have HE5 : Hid (OuEf own W m a nb tp i (storeP (dropP (dropP (dropP M i) i) i) (uN : Int) ⟨kT, kN, kS⟩ ⟨vT, vN, vS⟩) (fun _ => .tuple #[]) e w5) := ho4 hE
    clear R4 hn4 ho4 HST y0 y1 y2 z0 z1 z2
    rcases hE with ⟨_, rfl, _⟩ | ⟨_, ⟨bb, rfl, _, _⟩, _⟩ | ⟨_, rfl, _⟩
    · go_wp2_with fail
      go_end0
      rw [HO.out]
      exact HE5.out
    · go_wp2_with fail
      simp [bodyPost]
      rw [HO.out]
      exact HE5.out
    · go_wp2_with fail
      simp [bodyPost]
      rw [HO.out]
      exact HE5.out
  · have HO : Hid (plainP M i 12 x = thr (dropP (dropP (dropP M i) i) i) () (str [105, 110, 100, 101, 120])) := by rw [HO1.out]; exact if_pos t4
    have HTO := fun W => tabOf_thr ⟨uT, uN, uS⟩ mIndex W t4
    rw [valV_mk] at HTO
    unfold mIndex at HTO
    clear HO1 HH4 t4
    go_wp2_with fail
    refine (HTO _).mono ?_; rintro e w4 ht
    obtain ⟨bb, rfl, ht2, ht3, ht4⟩ := ht
    have HE4 : Hid (OuEf own W m a nb tp i (thr (dropP (dropP (dropP M i) i) i) () (str [105, 110, 100, 101, 120])) (fun _ => .tuple #[]) (thrE bb) w4) := R3.thrown ⟨bb, rfl, ht2, ht3, ht4⟩
    clear ht2 ht3 ht4 R3 HTO
    go_wp2_with fail
    simp [bodyPost]
    rw [HO.out]
    exact HE4.out
set_option maxRecDepth 16000 in
set_option maxHeartbeats 1000000 in
theorem plain_14 {own : Nat → Nat} {W : World} {m a nb tp : Nat} {M : Mc} (HV : Vm own W m a nb tp M) {i : Nat} (hi : i < M.th.length) {fb n pb P sl base ns kk clo : Nat} {ad : Option Addr} {scp : Nat} (hC : PlC W m a M i fb n pb P sl base ns kk clo ad scp) (x : Nat) :
    Calls Tryz.prog 92 #[.pointer (some ⟨m, 0, none⟩), i64 i, .pointer (some ⟨a, i * 5, none⟩), .pointer (some ⟨fb, n * 5, none⟩), .pointer (some ⟨pb, P * 8, none⟩), .int .u8 14, i64 x] W (OuEf own W m a nb tp i (plainP M i 14 x) (fun _ => .tuple #[])) := by
  have HHV : Hid (Vm own W m a nb tp M) := HV
  have HO1 : Hid (plainP M i 14 x = if (makeP M.tb).2.1 ≠ 0 then trp M () 8 else ok (pushP { M with tb := (makeP M.tb).2.2 } i [⟨4, M.tb.length, []⟩]) ()) := rfl
  have htl : M.tb.length ≤ 12 := by
    obtain ⟨reps, count, h1, h2⟩ := HV.tabR.1
    rw [← h2, stOf_len h1.cnt]
    have := h1.cnt
    have := h1.max
    omega
  have HST := fun W => stop_any 8 W
  obtain ⟨s1, s2, f2, f0, p1, p4, hle, hs9, hk9, HE, fl, pl⟩ := hC
  go_enter Tryz.func92, Tryz.ntmps92
  go_wp2_with fail
  go_quiet (fail)
  rw [Nat.add_sub_cancel_left]
  generalize (if scp = base then ad else Option.map (fun x => x.add (base * 3)) ad) = adx
  have R0 : Rm own W m a nb tp i [] M (W.drewN nq) := (Rm.start HHV.out).below (below_drewN (Below.refl _ _) _)
  have g2 : (W.drewN nq).cell? ⟨fb, n * 5 + 2, none⟩ = some (i64 base) := f2
  have g0 : (W.drewN nq).cell? ⟨fb, n * 5, none⟩ = some (i64 clo) := f0
  have gl : fb < (W.drewN nq).heap.size := fl
  have hcq : (W.drewN nq).cell? ⟨a, i * 5 + 3, none⟩ = W.cell? ⟨a, i * 5 + 3, none⟩ := rfl
  clear s1 f2 f0 p1 p4 fl pl
  generalize W.drewN nq = w0 at *
  have HSL : Hid (sl = (M.t i).sk.length) := HE.out.1
  obtain ⟨qa0, qa1, qam⟩ := R0.rn.cellM
  obtain ⟨own0, hv0, hn0⟩ := R0.vm
  have HMK := rmake own0 tp M.tb w0 hv0.tabR.1 hv0.tabR.2.1
  have HTN : Hid (∀ w', REnd own0 w0 tp (makeP M.tb).2.2 w' → Rm own W m a nb tp i [] { M with tb := (makeP M.tb).2.2 } w') := fun w' h => hn0 _ _ (hv0.tabsN h i)
  clear hv0 hn0
  by_cases h12 : 12 ≤ M.tb.length
  · have hmk : makeP M.tb = (-1, 8, M.tb) := if_pos h12
    have HO : Hid (plainP M i 14 x = trp M () 8) := by rw [HO1.out, hmk]; exact if_pos (show (8 : Int) ≠ 0 by decide)
    rw [hmk] at HMK HTN
    simp only at HMK HTN
    clear HO1 hmk h12
    go_wp2_with fail
    refine HMK.mono ?_; rintro e w1 ⟨rfl, hE⟩
    have HR1 : Hid (Rm own W m a nb tp i [] { M with tb := M.tb } w1) := HTN.out _ hE
    clear hE HMK HTN
    go_wp2_with fail
    refine (HST _).mono ?_; rintro e w2 ⟨rfl, rfl⟩
    go_wp2_with fail
    simp [bodyPost]
    rw [HO.out]
    exact .inr (.inr ⟨rfl, rfl, HR1.out.rn.nx⟩)
  · have hmk : makeP M.tb = ((M.tb.length : Int), 0, M.tb ++ [[]]) := if_neg h12
    have HO : Hid (plainP M i 14 x = ok (pushP { M with tb := M.tb ++ [[]] } i [⟨4, M.tb.length, []⟩]) ()) := by rw [HO1.out, hmk]; exact if_neg (by simp)
    rw [hmk] at HMK HTN
    simp only at HMK HTN
    clear HO1 hmk h12 HST R0
    go_wp2_with fail
    refine HMK.mono ?_; rintro e w1 ⟨rfl, hE⟩
    have R1 := HTN.out _ hE
    have HPU := R1.rn.weak.push rfl (show i < ({ M with tb := M.tb ++ [[]] } : Mc).th.length from hi) (show (M.t i).sk.length ≤ 20000 by have := HSL.out; omega) 4 M.tb.length [] (n := w1.heap.size) rfl
    clear hE HMK HTN
    generalize hTL : M.tb.length = tl at *
    have HTLE : Hid (M.tb.length = tl) := hTL
    clear hTL
    clear R1
    go_wp2_with fail
    refine HPU.mono ?_; rintro e w9 ⟨rfl, hN⟩
    have HN : Hid (Nf own W m a nb tp i (pushP { M with tb := M.tb ++ [[]] } i [⟨4, tl, []⟩]) w9) := hN
    clear hN HPU
    go_wp2_with fail
    go_end0
    rw [HO.out]
    exact .inl ⟨rfl, rfl, HN.out⟩
end Go.Proofs.Qxb6500293aGreatRR
