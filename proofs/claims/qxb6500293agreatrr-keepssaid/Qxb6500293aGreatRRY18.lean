/-
  plain walked: closures, closing, the loops, the operators.
-/
import Derived.Test.Qxb6500293aGreatRRY17
namespace Go.Proofs.Qxb6500293aGreatRR
open Go.RowKit
open Ieee (double)
set_option linter.unusedVariables false
set_option linter.unusedSimpArgs false

set_option maxRecDepth 16000 in
set_option maxHeartbeats 4000000 in
theorem plain_oper {own : Nat → Nat} {W : World} {m a nb tp : Nat} {M : Mc} (HV : Vm own W m a nb tp M) {i : Nat} (hi : i < M.th.length) {fb n pb P sl base ns kk clo : Nat} {ad : Option Addr} {scp : Nat} (hC : PlC W m a M i fb n pb P sl base ns kk clo ad scp) (x op : Nat) (hop : op = 15 ∨ op = 16 ∨ op = 17 ∨ op = 18 ∨ op = 19 ∨ op = 20) (HOP : ∀ w own', Vm own' w m a nb tp M → Calls Tryz.prog 110 #[.pointer (some ⟨m, 0, none⟩), .pointer (some ⟨a, i * 5, none⟩), .int .u8 (op : Int), i64 x] w (OuEf own' w m a nb tp i (operP M i op x) (fun _ => .tuple #[]))) :
    Calls Tryz.prog 92 #[.pointer (some ⟨m, 0, none⟩), i64 i, .pointer (some ⟨a, i * 5, none⟩), .pointer (some ⟨fb, n * 5, none⟩), .pointer (some ⟨pb, P * 8, none⟩), .int .u8 (op : Int), i64 x] W (OuEf own W m a nb tp i (plainP M i op x) (fun _ => .tuple #[])) := by
  have HHV : Hid (Vm own W m a nb tp M) := HV
  have HOH : Hid (∀ w own', Vm own' w m a nb tp M → Calls Tryz.prog 110 #[.pointer (some ⟨m, 0, none⟩), .pointer (some ⟨a, i * 5, none⟩), .int .u8 (op : Int), i64 x] w (OuEf own' w m a nb tp i (operP M i op x) (fun _ => .tuple #[]))) := HOP
  have HO : Hid (plainP M i op x = operP M i op x) := by rcases hop with rfl | rfl | rfl | rfl | rfl | rfl <;> exact rfl
  clear HOP HV
  rcases hop with rfl | rfl | rfl | rfl | rfl | rfl
  · obtain ⟨s1, s2, f2, f0, p1, p4, hle, hs9, hk9, HE, fl, pl⟩ := hC
    go_enter Tryz.func92, Tryz.ntmps92
    go_wp2_with fail
    go_quiet (fail)
    rw [Nat.add_sub_cancel_left]
    generalize (if scp = base then ad else Option.map (fun x => x.add (base * 3)) ad) = adx
    have R0 : Rm own W m a nb tp i [] M (W.drewN nq) := (Rm.start HHV.out).below (below_drewN (Below.refl _ _) _)
    have g2 : (W.drewN nq).cell? ⟨fb, n * 5 + 2, none⟩ = some (i64 base) := f2
    have g0 : (W.drewN nq).cell? ⟨fb, n * 5, none⟩ = some (i64 clo) := f0
    have gl : fb < (W.drewN nq).heap.size := fl
    have hcq : (W.drewN nq).cell? ⟨a, i * 5 + 3, none⟩ = W.cell? ⟨a, i * 5 + 3, none⟩ := rfl
    clear s1 f2 f0 p1 p4 fl pl
    generalize W.drewN nq = w0 at *
    have HSL : Hid (sl = (M.t i).sk.length) := HE.out.1
    obtain ⟨qa0, qa1, qam⟩ := R0.rn.cellM
    obtain ⟨own0, hv0, _, ho0⟩ := R0.vmO
    have HC := HOH.out _ own0 hv0
    clear hv0 R0
    go_wp2_with fail
    refine HC.mono ?_; rintro e w5 hE
    have HE5 : Hid (OuEf own W m a nb tp i (operP M i 15 x) (fun _ => .tuple #[]) e w5) := ho0 hE
    clear ho0 HC
    rcases hE with ⟨_, rfl, _⟩ | ⟨_, ⟨bb, rfl, _, _⟩, _⟩ | ⟨_, rfl, _⟩
    · go_wp2_with fail
      go_end0
      rw [HO.out]
      exact HE5.out
    · go_wp2_with fail
      simp [bodyPost]
      rw [HO.out]
      exact HE5.out
    · go_wp2_with fail
      simp [bodyPost]
      rw [HO.out]
      exact HE5.out
  · obtain ⟨s1, s2, f2, f0, p1, p4, hle, hs9, hk9, HE, fl, pl⟩ := hC
    go_enter Tryz.func92, Tryz.ntmps92
    go_wp2_with fail
    go_quiet (fail)
    rw [Nat.add_sub_cancel_left]
    generalize (if scp = base then ad else Option.map (fun x => x.add (base * 3)) ad) = adx
    have R0 : Rm own W m a nb tp i [] M (W.drewN nq) := (Rm.start HHV.out).below (below_drewN (Below.refl _ _) _)
    have g2 : (W.drewN nq).cell? ⟨fb, n * 5 + 2, none⟩ = some (i64 base) := f2
    have g0 : (W.drewN nq).cell? ⟨fb, n * 5, none⟩ = some (i64 clo) := f0
    have gl : fb < (W.drewN nq).heap.size := fl
    have hcq : (W.drewN nq).cell? ⟨a, i * 5 + 3, none⟩ = W.cell? ⟨a, i * 5 + 3, none⟩ := rfl
    clear s1 f2 f0 p1 p4 fl pl
    generalize W.drewN nq = w0 at *
    have HSL : Hid (sl = (M.t i).sk.length) := HE.out.1
    obtain ⟨qa0, qa1, qam⟩ := R0.rn.cellM
    obtain ⟨own0, hv0, _, ho0⟩ := R0.vmO
    have HC := HOH.out _ own0 hv0
    clear hv0 R0
    go_wp2_with fail
    refine HC.mono ?_; rintro e w5 hE
    have HE5 : Hid (OuEf own W m a nb tp i (operP M i 16 x) (fun _ => .tuple #[]) e w5) := ho0 hE
    clear ho0 HC
    rcases hE with ⟨_, rfl, _⟩ | ⟨_, ⟨bb, rfl, _, _⟩, _⟩ | ⟨_, rfl, _⟩
    · go_wp2_with fail
      go_end0
      rw [HO.out]
      exact HE5.out
    · go_wp2_with fail
      simp [bodyPost]
      rw [HO.out]
      exact HE5.out
    · go_wp2_with fail
      simp [bodyPost]
      rw [HO.out]
      exact HE5.out
  · obtain ⟨s1, s2, f2, f0, p1, p4, hle, hs9, hk9, HE, fl, pl⟩ := hC
    go_enter Tryz.func92, Tryz.ntmps92
    go_wp2_with fail
    go_quiet (fail)
    rw [Nat.add_sub_cancel_left]
    generalize (if scp = base then ad else Option.map (fun x => x.add (base * 3)) ad) = adx
    have R0 : Rm own W m a nb tp i [] M (W.drewN nq) := (Rm.start HHV.out).below (below_drewN (Below.refl _ _) _)
    have g2 : (W.drewN nq).cell? ⟨fb, n * 5 + 2, none⟩ = some (i64 base) := f2
    have g0 : (W.drewN nq).cell? ⟨fb, n * 5, none⟩ = some (i64 clo) := f0
    have gl : fb < (W.drewN nq).heap.size := fl
    have hcq : (W.drewN nq).cell? ⟨a, i * 5 + 3, none⟩ = W.cell? ⟨a, i * 5 + 3, none⟩ := rfl
    clear s1 f2 f0 p1 p4 fl pl
    generalize W.drewN nq = w0 at *
    have HSL : Hid (sl = (M.t i).sk.length) := HE.out.1
    obtain ⟨qa0, qa1, qam⟩ := R0.rn.cellM
    obtain ⟨own0, hv0, _, ho0⟩ := R0.vmO
    have HC := HOH.out _ own0 hv0
    clear hv0 R0
    go_wp2_with fail
    refine HC.mono ?_; rintro e w5 hE
    have HE5 : Hid (OuEf own W m a nb tp i (operP M i 17 x) (fun _ => .tuple #[]) e w5) := ho0 hE
    clear ho0 HC
    rcases hE with ⟨_, rfl, _⟩ | ⟨_, ⟨bb, rfl, _, _⟩, _⟩ | ⟨_, rfl, _⟩
    · go_wp2_with fail
      go_end0
      rw [HO.out]
      exact HE5.out
    · go_wp2_with fail
      simp [bodyPost]
      rw [HO.out]
      exact HE5.out
    · go_wp2_with fail
      simp [bodyPost]
      rw [HO.out]
      exact HE5.out
  · obtain ⟨s1, s2, f2, f0, p1, p4, hle, hs9, hk9, HE, fl, pl⟩ := hC
    go_enter Tryz.func92, Tryz.ntmps92
    go_wp2_with fail
    go_quiet (fail)
    rw [Nat.add_sub_cancel_left]
    generalize (if scp = base then ad else Option.map (fun x => x.add (base * 3)) ad) = adx
    have R0 : Rm own W m a nb tp i [] M (W.drewN nq) := (Rm.start HHV.out).below (below_drewN (Below.refl _ _) _)
    have g2 : (W.drewN nq).cell? ⟨fb, n * 5 + 2, none⟩ = some (i64 base) := f2
    have g0 : (W.drewN nq).cell? ⟨fb, n * 5, none⟩ = some (i64 clo) := f0
    have gl : fb < (W.drewN nq).heap.size := fl
    have hcq : (W.drewN nq).cell? ⟨a, i * 5 + 3, none⟩ = W.cell? ⟨a, i * 5 + 3, none⟩ := rfl
    clear s1 f2 f0 p1 p4 fl pl
    generalize W.drewN nq = w0 at *
    have HSL : Hid (sl = (M.t i).sk.length) := HE.out.1
    obtain ⟨qa0, qa1, qam⟩ := R0.rn.cellM
    obtain ⟨own0, hv0, _, ho0⟩ := R0.vmO
    have HC := HOH.out _ own0 hv0
    clear hv0 R0
    go_wp2_with fail
    refine HC.mono ?_; rintro e w5 hE
    have HE5 : Hid (OuEf own W m a nb tp i (operP M i 18 x) (fun _ => .tuple #[]) e w5) := ho0 hE
    clear ho0 HC
    rcases hE with ⟨_, rfl, _⟩ | ⟨_, ⟨bb, rfl, _, _⟩, _⟩ | ⟨_, rfl, _⟩
    · go_wp2_with fail
      go_end0
      rw [HO.out]
      exact HE5.out
    · go_wp2_with fail
      simp [bodyPost]
      rw [HO.out]
      exact HE5.out
    · go_wp2_with fail
      simp [bodyPost]
      rw [HO.out]
      exact HE5.out
  · obtain ⟨s1, s2, f2, f0, p1, p4, hle, hs9, hk9, HE, fl, pl⟩ := hC
    go_enter Tryz.func92, Tryz.ntmps92
    go_wp2_with fail
    go_quiet (fail)
    rw [Nat.add_sub_cancel_left]
    generalize (if scp = base then ad else Option.map (fun x => x.add (base * 3)) ad) = adx
    have R0 : Rm own W m a nb tp i [] M (W.drewN nq) := (Rm.start HHV.out).below (below_drewN (Below.refl _ _) _)
    have g2 : (W.drewN nq).cell? ⟨fb, n * 5 + 2, none⟩ = some (i64 base) := f2
    have g0 : (W.drewN nq).cell? ⟨fb, n * 5, none⟩ = some (i64 clo) := f0
    have gl : fb < (W.drewN nq).heap.size := fl
    have hcq : (W.drewN nq).cell? ⟨a, i * 5 + 3, none⟩ = W.cell? ⟨a, i * 5 + 3, none⟩ := rfl
    clear s1 f2 f0 p1 p4 fl pl
    generalize W.drewN nq = w0 at *
    have HSL : Hid (sl = (M.t i).sk.length) := HE.out.1
    obtain ⟨qa0, qa1, qam⟩ := R0.rn.cellM
    obtain ⟨own0, hv0, _, ho0⟩ := R0.vmO
    have HC := HOH.out _ own0 hv0
    clear hv0 R0
    go_wp2_with fail
    refine HC.mono ?_; rintro e w5 hE
    have HE5 : Hid (OuEf own W m a nb tp i (operP M i 19 x) (fun _ => .tuple #[]) e w5) := ho0 hE
    clear ho0 HC
    rcases hE with ⟨_, rfl, _⟩ | ⟨_, ⟨bb, rfl, _, _⟩, _⟩ | ⟨_, rfl, _⟩
    · go_wp2_with fail
      go_end0
      rw [HO.out]
      exact HE5.out
    · go_wp2_with fail
      simp [bodyPost]
      rw [HO.out]
      exact HE5.out
    · go_wp2_with fail
      simp [bodyPost]
      rw [HO.out]
      exact HE5.out
  · obtain ⟨s1, s2, f2, f0, p1, p4, hle, hs9, hk9, HE, fl, pl⟩ := hC
    go_enter Tryz.func92, Tryz.ntmps92
    go_wp2_with fail
    go_quiet (fail)
    rw [Nat.add_sub_cancel_left]
    generalize (if scp = base then ad else Option.map (fun x => x.add (base * 3)) ad) = adx
    have R0 : Rm own W m a nb tp i [] M (W.drewN nq) := (Rm.start HHV.out).below (below_drewN (Below.refl _ _) _)
    have g2 : (W.drewN nq).cell? ⟨fb, n * 5 + 2, none⟩ = some (i64 base) := f2
    have g0 : (W.drewN nq).cell? ⟨fb, n * 5, none⟩ = some (i64 clo) := f0
    have gl : fb < (W.drewN nq).heap.size := fl
    have hcq : (W.drewN nq).cell? ⟨a, i * 5 + 3, none⟩ = W.cell? ⟨a, i * 5 + 3, none⟩ := rfl
    clear s1 f2 f0 p1 p4 fl pl
    generalize W.drewN nq = w0 at *
    have HSL : Hid (sl = (M.t i).sk.length) := HE.out.1
    obtain ⟨qa0, qa1, qam⟩ := R0.rn.cellM
    obtain ⟨own0, hv0, _, ho0⟩ := R0.vmO
    have HC := HOH.out _ own0 hv0
    clear hv0 R0
    go_wp2_with fail
    refine HC.mono ?_; rintro e w5 hE
    have HE5 : Hid (OuEf own W m a nb tp i (operP M i 20 x) (fun _ => .tuple #[]) e w5) := ho0 hE
    clear ho0 HC
    rcases hE with ⟨_, rfl, _⟩ | ⟨_, ⟨bb, rfl, _, _⟩, _⟩ | ⟨_, rfl, _⟩
    · go_wp2_with fail
      go_end0
      rw [HO.out]
      exact HE5.out
    · go_wp2_with fail
      simp [bodyPost]
      rw [HO.out]
      exact HE5.out
    · go_wp2_with fail
      simp [bodyPost]
      rw [HO.out]
      exact HE5.out
set_option maxRecDepth 16000 in
set_option maxHeartbeats 1000000 in
theorem plain_28 {own : Nat → Nat} {W : World} {m a nb tp : Nat} {M : Mc} (HV : Vm own W m a nb tp M) {i : Nat} (hi : i < M.th.length) {fb n pb P sl base ns kk clo : Nat} {ad : Option Addr} {scp : Nat} (hC : PlC W m a M i fb n pb P sl base ns kk clo ad scp) (x : Nat) {cp : Nat} (hfr : W.cell? ⟨a, i * 5 + 3, none⟩ = some (.slice (some ⟨fb, 0, none⟩) (n + 1) cp)) (hlen : (M.t i).fr.length = n + 1) (hcl : ClosOk M i x) (hcx : (closP M i x).k = 0 → i < (closP M i x).M.th.length ∧ ((closP M i x).M.t i).sk.length ≤ 20000 ∧ (closP M i x).x ≤ 100) (hk2 : (closP M i x).k ≠ 2) :
    Calls Tryz.prog 92 #[.pointer (some ⟨m, 0, none⟩), i64 i, .pointer (some ⟨a, i * 5, none⟩), .pointer (some ⟨fb, n * 5, none⟩), .pointer (some ⟨pb, P * 8, none⟩), .int .u8 28, i64 x] W (OuEf own W m a nb tp i (plainP M i 28 x) (fun _ => .tuple #[])) := by
  have HHV : Hid (Vm own W m a nb tp M) := HV
  have HO1 : Hid (plainP M i 28 x = (closP M i x).then () fun M c => ok (pushP M i [⟨5, c, []⟩]) ()) := rfl
  have HCX : Hid (((closP M i x).k = 0 → i < (closP M i x).M.th.length ∧ ((closP M i x).M.t i).sk.length ≤ 20000 ∧ (closP M i x).x ≤ 100) ∧ (closP M i x).k ≠ 2 ∧ ClosOk M i x) := ⟨hcx, hk2, hcl⟩
  clear hcx hk2 hcl
  obtain ⟨s1, s2, f2, f0, p1, p4, hle, hs9, hk9, HE, fl, pl⟩ := hC
  go_enter Tryz.func92, Tryz.ntmps92
  go_wp2_with fail
  go_quiet (fail)
  rw [Nat.add_sub_cancel_left]
  generalize (if scp = base then ad else Option.map (fun x => x.add (base * 3)) ad) = adx
  have R0 : Rm own W m a nb tp i [] M (W.drewN nq) := (Rm.start HHV.out).below (below_drewN (Below.refl _ _) _)
  have g2 : (W.drewN nq).cell? ⟨fb, n * 5 + 2, none⟩ = some (i64 base) := f2
  have g0 : (W.drewN nq).cell? ⟨fb, n * 5, none⟩ = some (i64 clo) := f0
  have gl : fb < (W.drewN nq).heap.size := fl
  have hcq : (W.drewN nq).cell? ⟨a, i * 5 + 3, none⟩ = W.cell? ⟨a, i * 5 + 3, none⟩ := rfl
  clear s1 f2 f0 p1 p4 fl pl
  generalize W.drewN nq = w0 at *
  have HSL : Hid (sl = (M.t i).sk.length) := HE.out.1
  obtain ⟨qa0, qa1, qam⟩ := R0.rn.cellM
  obtain ⟨own0, hv0, hn0, ho0⟩ := R0.vmO
  have HC := closure_any hv0 hi (hcq.trans hfr) hlen x HCX.out.2.2
  have HN0 : Hid (∀ M2 w2, Nf own0 w0 m a nb tp i M2 w2 → Rm own W m a nb tp i [] M2 w2) := hn0
  clear hv0 R0 hn0
  generalize closP M i x = o at *
  obtain ⟨ok', oM, oc, ov, oe⟩ := o
  go_wp2_with fail
  refine HC.mono ?_; rintro e w5 hE
  have HE5 : Hid (OuEf own W m a nb tp i (⟨ok', oM, oc, ov, oe⟩ : Ou Nat) (fun c => i64 c) e w5) := ho0 hE
  clear ho0 HC
  rcases hE with ⟨h0, rfl, hN⟩ | ⟨h2, _, _⟩ | ⟨h3, rfl, _⟩
  · simp only at h0
    subst h0
    obtain ⟨c1, c2, c3⟩ := HCX.out.1 rfl
    have R1 := HN0.out _ _ hN
    have HO : Hid (plainP M i 28 x = ok (pushP oM i [⟨5, oc, []⟩]) ()) := HO1.out
    have HPU := R1.rn.weak.push rfl c1 c2 5 oc [] (n := w5.heap.size) rfl
    clear hN HN0 HCX HO1 HE5
    clear R1
    go_wp2_with fail
    refine HPU.mono ?_; rintro e w9 ⟨rfl, hN⟩
    have HN : Hid (Nf own W m a nb tp i (pushP oM i [⟨5, oc, []⟩]) w9) := hN
    clear hN HPU
    go_wp2_with fail
    go_end0
    rw [HO.out]
    exact .inl ⟨rfl, rfl, HN.out⟩
  · exact absurd h2 HCX.out.2.1
  · simp only at h3
    subst h3
    have HO : Hid (plainP M i 28 x = ⟨3, oM, (), ov, oe⟩) := HO1.out
    clear HN0 HCX HO1
    go_wp2_with fail
    simp [bodyPost]
    rw [HO.out]
    rcases HE5.out with ⟨h, _⟩ | ⟨h, _⟩ | ⟨_, _, h⟩
    · cases h
    · cases h
    · exact .inr (.inr ⟨rfl, rfl, h⟩)
set_option maxRecDepth 16000 in
set_option maxHeartbeats 1000000 in
theorem plain_29 {own : Nat → Nat} {W : World} {m a nb tp : Nat} {M : Mc} (HV : Vm own W m a nb tp M) {i : Nat} (hi : i < M.th.length) {fb n pb P sl base ns kk clo : Nat} {ad : Option Addr} {scp : Nat} (hC : PlC W m a M i fb n pb P sl base ns kk clo ad scp) (x : Nat) (hop : (M.t i).op.length ≤ 10000) (hce : M.ce.length ≤ 100000) (hok : OpOk M i) (hx : x ≤ 20) (hb : base ≤ 10000) :
    Calls Tryz.prog 92 #[.pointer (some ⟨m, 0, none⟩), i64 i, .pointer (some ⟨a, i * 5, none⟩), .pointer (some ⟨fb, n * 5, none⟩), .pointer (some ⟨pb, P * 8, none⟩), .int .u8 29, i64 x] W (OuEf own W m a nb tp i (plainP M i 29 x) (fun _ => .tuple #[])) := by
  have HHV : Hid (Vm own W m a nb tp M) := HV
  have HO1 : Hid (plainP M i 29 x = ok (closeP M i ((M.t i).f.base + x)) ()) := rfl
  have HOK : Hid ((M.t i).op.length ≤ 10000 ∧ M.ce.length ≤ 100000 ∧ OpOk M i) := ⟨hop, hce, hok⟩
  clear hop hce hok
  obtain ⟨s1, s2, f2, f0, p1, p4, hle, hs9, hk9, HE, fl, pl⟩ := hC
  go_enter Tryz.func92, Tryz.ntmps92
  go_wp2_with fail
  go_quiet (fail)
  rw [Nat.add_sub_cancel_left]
  generalize (if scp = base then ad else Option.map (fun x => x.add (base * 3)) ad) = adx
  have R0 : Rm own W m a nb tp i [] M (W.drewN nq) := (Rm.start HHV.out).below (below_drewN (Below.refl _ _) _)
  have g2 : (W.drewN nq).cell? ⟨fb, n * 5 + 2, none⟩ = some (i64 base) := f2
  have g0 : (W.drewN nq).cell? ⟨fb, n * 5, none⟩ = some (i64 clo) := f0
  have gl : fb < (W.drewN nq).heap.size := fl
  have hcq : (W.drewN nq).cell? ⟨a, i * 5 + 3, none⟩ = W.cell? ⟨a, i * 5 + 3, none⟩ := rfl
  clear s1 f2 f0 p1 p4 fl pl
  generalize W.drewN nq = w0 at *
  have HSL : Hid (sl = (M.t i).sk.length) := HE.out.1
  obtain ⟨qa0, qa1, qam⟩ := R0.rn.cellM
  have HO : Hid (plainP M i 29 x = ok (closeP M i (base + x)) ()) := by rw [HO1.out, ← HE.out.2.1]; exact rfl
  obtain ⟨own0, hv0, hn0, _⟩ := R0.vmO
  have HCL := closeFrom_any hv0 hi (base + x) (by omega) HOK.out.1 (by have := HSL.out; omega) HOK.out.2.1 HOK.out.2.2
  have HN0 : Hid (∀ M2 w2, Nf own0 w0 m a nb tp i M2 w2 → Rm own W m a nb tp i [] M2 w2) := hn0
  have e9 : i64 (base + x) = .int .i64 ((base : Int) + (x : Int)) := by show Value.int .i64 ((base + x : Nat) : Int) = _; rw [Int.natCast_add]
  rw [e9] at HCL
  clear hv0 R0 hn0 HO1 e9
  go_wp2_with fail
  refine HCL.mono ?_; rintro e w1 ⟨rfl, hN⟩
  have HN : Hid (Nf own W m a nb tp i (closeP M i (base + x)) w1) := (HN0.out _ _ hN).rn.nf rfl
  clear hN HCL HN0
  go_wp2_with fail
  go_end0
  rw [HO.out]
  exact .inl ⟨rfl, rfl, HN.out⟩
end Go.Proofs.Qxb6500293aGreatRR
