/-
  showFrame walked.
-/
import Derived.Test.Qxb6500293aGreatRRA1
import Derived.Test.Qxb6500293aGreatRRY36
import Derived.Test.Qxb6500293aGreatRRY26
import Derived.Deep.CutRange
namespace Go.Proofs.Qxb6500293aGreatRR
open Go.RowKit
open Ieee (double)
set_option linter.unusedVariables false
set_option linter.unusedSimpArgs false

theorem vals_nil (w : World) (ad : Option Addr) (cap : Nat) : Calls Tryz.prog 34 #[.slice ad 0 cap] w fun e w' => e = .returned (.string ⟨#[]⟩) ∧ Below w.heap.size w w' := by
  go_enter Tryz.func34, Tryz.ntmps34
  go_wp2_with fail
  go_loopw [3, 9] (fun s i wr => i = .int .i64 0 ∧ s = .string ⟨#[]⟩ ∧ wr = w) (fun _ _ _ => 0)
  case atStart => exact ⟨rfl, rfl, rfl⟩
  case round =>
    obtain ⟨rfl, rfl, rfl⟩ := hrel
    go_wp2_with fail
    go_ret
    exact ⟨rfl, Below.refl _ _⟩
theorem win_flat {l : List V} {lo n j : Nat} {u : Value} (h : (((l.drop lo).take n).flatMap valC)[j]? = some u) : (l.flatMap valC)[lo * 3 + j]? = some u := by
  rw [← List.getElem?_drop, ← flat_dropV]
  have e : (l.drop lo).flatMap valC = ((l.drop lo).take n).flatMap valC ++ ((l.drop lo).drop n).flatMap valC := by rw [← List.flatMap_append, List.take_append_drop]
  rw [e, List.getElem?_append_left (List.getElem?_eq_some_iff.1 h).1]
  exact h
section
variable {own : Nat → Nat} {W : World} {m a nb tp : Nat} {M : Mc}
/-- The frames of a thread. -/
theorem Vm.frAll (HV : Vm own W m a nb tp M) {i : Nat} (hi : i < M.th.length) (h0 : 0 < (M.t i).fr.length) : ∃ fb cp, W.cell? ⟨a, i * 5 + 3, none⟩ = some (.slice (some ⟨fb, 0, none⟩) (M.t i).fr.length cp) ∧ (M.t i).fr.length ≤ cp ∧ fb < W.heap.size ∧ ∀ j, j < (M.t i).fr.length → W.cell? ⟨fb, j * 5, none⟩ = some (i64 (frAt (M.t i) j).clo) ∧ W.cell? ⟨fb, j * 5 + 1, none⟩ = some (i64 (frAt (M.t i) j).pc) ∧ W.cell? ⟨fb, j * 5 + 2, none⟩ = some (i64 (frAt (M.t i) j).base) ∧ W.cell? ⟨fb, j * 5 + 3, none⟩ = some (i64 (frAt (M.t i) j).ret) ∧ W.cell? ⟨fb, j * 5 + 4, none⟩ = some (.bool (frAt (M.t i) j).prot) := by
  obtain ⟨vals, L, H⟩ := HV
  obtain ⟨s2, srow, scol⟩ := H.frRow hi
  have key : ∀ j, j < (M.t i).fr.length → ∃ fb cp, vals (9 + 3 * i) = .slice (some ⟨fb, 0, none⟩) (M.t i).fr.length cp ∧ (M.t i).fr.length ≤ cp ∧ fb < W.heap.size ∧ W.cell? ⟨fb, j * 5, none⟩ = some (i64 (frAt (M.t i) j).clo) ∧ W.cell? ⟨fb, j * 5 + 1, none⟩ = some (i64 (frAt (M.t i) j).pc) ∧ W.cell? ⟨fb, j * 5 + 2, none⟩ = some (i64 (frAt (M.t i) j).base) ∧ W.cell? ⟨fb, j * 5 + 3, none⟩ = some (i64 (frAt (M.t i) j).ret) ∧ W.cell? ⟨fb, j * 5 + 4, none⟩ = some (.bool (frAt (M.t i) j).prot) := by
    intro j hj
    obtain ⟨sb, scp, sv, scl, slt, sfz, scell⟩ := row_elem frC_len (by decide) srow (j := j) (x := frAt (M.t i) j) (at_some hj)
    exact ⟨sb, scp, sv, scl, slt, scell 0 _ rfl, scell 1 _ rfl, scell 2 _ rfl, scell 3 _ rfl, scell 4 _ rfl⟩
  obtain ⟨fb, cp, k1, k2, k3, _⟩ := key 0 h0
  refine ⟨fb, cp, by rw [s2, k1], k2, k3, fun j hj => ?_⟩
  obtain ⟨fb', cp', g1, _, _, g4⟩ := key j hj
  rw [k1] at g1
  have e : fb' = fb := by cases g1; rfl
  rw [e] at g4
  exact g4
/-- A window of the stack. -/
theorem Vm.skWin (HV : Vm own W m a nb tp M) {i : Nat} (hi : i < M.th.length) : ∃ ad cp, W.cell? ⟨a, i * 5 + 2, none⟩ = some (.slice ad (M.t i).sk.length cp) ∧ (M.t i).sk.length ≤ cp ∧ ((ad = none ∧ cp = 0 ∧ (M.t i).sk.length = 0) ∨ ∃ sb, ad = some ⟨sb, 0, none⟩ ∧ sb < W.heap.size ∧ ∀ lo n, lo + n ≤ (M.t i).sk.length → ∃ k, (if cp = lo then some (⟨sb, 0, none⟩ : Addr) else some ⟨sb, lo * 3, none⟩) = some ⟨sb, k, none⟩ ∧ VA W sb k (((M.t i).sk.drop lo).take n)) := by
  by_cases h0 : 0 < (M.t i).sk.length
  · obtain ⟨b, cp, h1, h2, h3, h4, h5⟩ := HV.skAll hi h0
    refine ⟨_, cp, h1, h2, .inr ⟨b, rfl, h3, fun lo n hn => ?_⟩⟩
    by_cases c : cp = lo
    · refine ⟨0, by rw [if_pos c], h3, fun j u hu => ?_⟩
      have : n = 0 := by omega
      subst this
      simp at hu
    · exact ⟨lo * 3, by rw [if_neg c], h3, fun j u hu => h5 _ _ (win_flat hu)⟩
  · obtain ⟨vals, L, H⟩ := HV
    obtain ⟨s2, srow, scol⟩ := H.skRow hi
    have hz : (M.t i).sk.length = 0 := by omega
    rcases srow.2 with ⟨h1, h0'⟩ | ⟨g, cap, cur, h1, hg⟩
    · refine ⟨none, 0, by rw [s2, h1, hz], by omega, .inl ⟨rfl, rfl, hz⟩⟩
    · have hlt : g < W.heap.size := ownsRow_lt srow g (by rw [h1]; rfl)
      refine ⟨_, cap, by rw [s2, h1], by omega, .inr ⟨g, rfl, hlt, fun lo n hn => ?_⟩⟩
      have hlo : lo = 0 := by omega
      have hn0 : n = 0 := by omega
      subst hlo hn0
      refine ⟨0, by split <;> rfl, hlt, fun j u hu => ?_⟩
      simp at hu
end
theorem vals_len' {l : List V} (h : ∀ v ∈ l, wfB v = true ∧ v.N < 18446744073709551616) : (valsP l).length ≤ 64 * l.length := flat_le _ l (fun v hv => by
  rw [List.length_append]
  have := showV_len (h v hv).1 (h v hv).2
  show _ + 1 ≤ 64
  omega)
/-- What showFrame finds. -/
structure SfC (W : World) (m a : Nat) (M : Mc) (i j : Nat) (fb nf fcp pb pn pcp cb cn ccp clo P pc base ns : Nat) (prot : Bool) : Prop where
  fr : W.cell? ⟨a, i * 5 + 3, none⟩ = some (.slice (some ⟨fb, 0, none⟩) nf fcp)
  nfl : nf ≤ fcp
  jn : j < nf
  m2 : W.cell? ⟨m, 2, none⟩ = some (.slice (some ⟨pb, 0, none⟩) pn pcp)
  m6 : W.cell? ⟨m, 6, none⟩ = some (.slice (some ⟨cb, 0, none⟩) cn ccp)
  c0 : W.cell? ⟨cb, clo * 3, none⟩ = some (i64 P)
  f0 : W.cell? ⟨fb, j * 5, none⟩ = some (i64 clo)
  f1 : W.cell? ⟨fb, j * 5 + 1, none⟩ = some (i64 pc)
  f2 : W.cell? ⟨fb, j * 5 + 2, none⟩ = some (i64 base)
  f4 : W.cell? ⟨fb, j * 5 + 4, none⟩ = some (.bool prot)
  p1 : W.cell? ⟨pb, P * 8 + 1, none⟩ = some (i64 ns)
  hclo : clo < cn
  hP : P < pn
  hcn : cn ≤ ccp
  hpn : pn ≤ pcp
  al : a < W.heap.size
  ml : m < W.heap.size
  fl : fb < W.heap.size
  pl : pb < W.heap.size
  cl : cb < W.heap.size
theorem SfC.below {W W' : World} {m a : Nat} {M : Mc} {i j : Nat} {fb nf fcp pb pn pcp cb cn ccp clo P pc base ns : Nat} {prot : Bool} (h : SfC W m a M i j fb nf fcp pb pn pcp cb cn ccp clo P pc base ns prot) (hb : Below W.heap.size W W') : SfC W' m a M i j fb nf fcp pb pn pcp cb cn ccp clo P pc base ns prot :=
  ⟨(hb.cell (p := ⟨a, i * 5 + 3, none⟩) h.al).trans h.fr, h.nfl, h.jn, (hb.cell (p := ⟨m, 2, none⟩) h.ml).trans h.m2, (hb.cell (p := ⟨m, 6, none⟩) h.ml).trans h.m6, (hb.cell (p := ⟨cb, clo * 3, none⟩) h.cl).trans h.c0, (hb.cell (p := ⟨fb, j * 5, none⟩) h.fl).trans h.f0, (hb.cell (p := ⟨fb, j * 5 + 1, none⟩) h.fl).trans h.f1, (hb.cell (p := ⟨fb, j * 5 + 2, none⟩) h.fl).trans h.f2, (hb.cell (p := ⟨fb, j * 5 + 4, none⟩) h.fl).trans h.f4, (hb.cell (p := ⟨pb, P * 8 + 1, none⟩) h.pl).trans h.p1, h.hclo, h.hP, h.hcn, h.hpn, Nat.lt_of_lt_of_le h.al hb.size, Nat.lt_of_lt_of_le h.ml hb.size, Nat.lt_of_lt_of_le h.fl hb.size, Nat.lt_of_lt_of_le h.pl hb.size, Nat.lt_of_lt_of_le h.cl hb.size⟩
theorem Vm.sfC {own : Nat → Nat} {W : World} {m a nb tp : Nat} {M : Mc} (HV : Vm own W m a nb tp M) (hA : Alive M none) {i j : Nat} (hi : i < M.th.length) (hj : j < (M.t i).fr.length) : ∃ fb fcp pb pn pcp cb cn ccp P, SfC W m a M i j fb (M.t i).fr.length fcp pb pn pcp cb cn ccp (frAt (M.t i) j).clo P (frAt (M.t i) j).pc (frAt (M.t i) j).base (M.p (frAt (M.t i) j).clo).ns (frAt (M.t i) j).prot ∧ (j + 1 < (M.t i).fr.length → W.cell? ⟨fb, (j + 1) * 5 + 3, none⟩ = some (i64 (frAt (M.t i) (j + 1)).ret)) := by
  have hf : (M.t i).fr[j]? = some (frAt (M.t i) j) := at_some hj
  have hc := ((hA.th i hi).frs j _ hf).clo
  have hcl := hA.clo hc
  obtain ⟨fb, fcp, h1, h2, h3, h4⟩ := HV.frAll hi (by omega)
  obtain ⟨pb, pn, pcp, cb, cn, ccp, d1, d2, d3, d4, d5, d6, d7, d8, _, _, d9, d10⟩ := HV.protoAt hc hcl.1
  obtain ⟨g0, g1, g2, g3, g4⟩ := h4 j hj
  exact ⟨fb, fcp, pb, pn, pcp, cb, cn, ccp, (M.c (frAt (M.t i) j).clo).p, ⟨h1, h2, hj, d1, d2, d9.1, g0, g1, g2, g4, d10.2.1, by rw [d4]; exact hc, by rw [d3]; exact hcl.1, d6, d5, HV.alt, HV.tabR.2.2.2.2, h3, d7, d8⟩, fun hj1 => (h4 (j + 1) hj1).2.2.2.1⟩
set_option maxRecDepth 8000 in
set_option maxHeartbeats 4000000 in
theorem showFr_any {own : Nat → Nat} {W : World} {m a nb tp : Nat} {M : Mc} (HV : Vm own W m a nb tp M) (hA : Alive M none) {i j : Nat} (hi : i < M.th.length) (hj : j < (M.t i).fr.length) :
    Calls Tryz.prog 15 #[.pointer (some ⟨m, 0, none⟩), .pointer (some ⟨a, i * 5, none⟩), i64 j] W fun e w' => e = .returned (.string ⟨(showFr M (M.t i) j).toArray⟩) ∧ Below W.heap.size W w' := by
  have hf : (M.t i).fr[j]? = some (frAt (M.t i) j) := at_some hj
  have hF := (hA.th i hi).frs j _ hf
  have hfr8 := (hA.th i hi).fr8
  have hsk := sk_bound hA hi
  have hva : ∀ v ∈ (M.t i).sk, wfB v = true ∧ v.N < 18446744073709551616 := fun v hv => by
    have h := hA.va.sk (M.t i) (by unfold Mc.t; rw [List.getElem?_eq_getElem hi]; exact List.getElem_mem hi) v hv
    exact ⟨h.wf, h.2⟩
  have hclo24 := hA.cl.cs24
  have hpc := (hA.st.each _ (hA.prc hF.clo)).2.2.2.2
  obtain ⟨fb, fcp, pb, pn, pcp, cb, cn, ccp, P, hC, hret⟩ := HV.sfC hA hi hj
  obtain ⟨ad, cp, s1, s2, s3⟩ := HV.skWin hi
  have hmid := hF.mid
  have hend : endF (M.t i) j ≤ (M.t i).sk.length := by have := hF.top; omega
  have l1 : (slF M (M.t i) j).length = (M.p (frAt (M.t i) j).clo).ns := by unfold slF; rw [List.length_take, List.length_drop]; omega
  have l2 : (opF M (M.t i) j).length = endF (M.t i) j - midF M (M.t i) j := by unfold opF; rw [List.length_take, List.length_drop]; unfold midF; omega
  have v1 : ∀ v ∈ slF M (M.t i) j, wfB v = true ∧ v.N < 18446744073709551616 := fun v hv => hva v (List.mem_of_mem_drop (List.mem_of_mem_take hv))
  have v2 : ∀ v ∈ opF M (M.t i) j, wfB v = true ∧ v.N < 18446744073709551616 := fun v hv => hva v (List.mem_of_mem_drop (List.mem_of_mem_take hv))
  have HS : Hid (showFr M (M.t i) j = ([[40], itoaL (frAt (M.t i) j).clo, [44], itoaL (frAt (M.t i) j).pc, if (frAt (M.t i) j).prot then [112] else [45], [59], valsP (slF M (M.t i) j), [59], valsP (opF M (M.t i) j), [41]] : List (List UInt8)).flatten) := rfl
  have n1 := vals_len' v1
  have n2 := vals_len' v2
  have HI1 := fun w => itoa_any ((frAt (M.t i) j).clo : Int) w (by omega) (by have := hF.clo; omega)
  have HI2 := fun w => itoa_any ((frAt (M.t i) j).pc : Int) w (by omega) (by have := hF.pc; omega)
  have n3 := itoaL_len (i := ((frAt (M.t i) j).clo : Int)) (by omega) (by have := hF.clo; omega)
  have n4 := itoaL_len (i := ((frAt (M.t i) j).pc : Int)) (by omega) (by have := hF.pc; omega)
  have hmidE : midF M (M.t i) j = (frAt (M.t i) j).base + (M.p (frAt (M.t i) j).clo).ns := rfl
  have hbnd : (frAt (M.t i) j).base + (M.p (frAt (M.t i) j).clo).ns ≤ 1120 := by omega
  rw [l1] at n1
  rw [l2, hmidE] at n2
  have HV1 : Hid (∀ sb k w cap', VA w sb k (((M.t i).sk.drop (frAt (M.t i) j).base).take (M.p (frAt (M.t i) j).clo).ns) → Calls Tryz.prog 34 #[.slice (some ⟨sb, k, none⟩) (M.p (frAt (M.t i) j).clo).ns cap'] w fun e w' => e = .returned (.string ⟨(valsP (slF M (M.t i) j)).toArray⟩) ∧ Below w.heap.size w w') := by
    intro sb k w cap' h
    have := vals_any w sb k cap' (slF M (M.t i) j) h v1 (by omega)
    rw [l1] at this
    exact this
  have HV2 : Hid (∀ sb k w cap', VA w sb k (((M.t i).sk.drop (midF M (M.t i) j)).take (endF (M.t i) j - midF M (M.t i) j)) → Calls Tryz.prog 34 #[.slice (some ⟨sb, k, none⟩) (endF (M.t i) j - midF M (M.t i) j) cap'] w fun e w' => e = .returned (.string ⟨(valsP (opF M (M.t i) j)).toArray⟩) ∧ Below w.heap.size w w') := by
    intro sb k w cap' h
    have := vals_any w sb k cap' (opF M (M.t i) j) h v2 (by omega)
    rw [l2] at this
    exact this
  have HZ : Hid ((M.t i).sk.length = 0 → valsP (slF M (M.t i) j) = [] ∧ valsP (opF M (M.t i) j) = []) := by
    intro h0
    have h0 := List.length_eq_zero_iff.1 h0
    unfold slF opF
    rw [h0]
    simp [valsP]
  have hgap : (M.t i).sk.length = 0 → ¬ j + 1 < (M.t i).fr.length := by
    intro h0 h1
    have := hF.gap h1
    have := hF.top
    omega
  have hendL : ¬ j + 1 < (M.t i).fr.length → endF (M.t i) j = (M.t i).sk.length := fun h => if_neg h
  have hendI : j + 1 < (M.t i).fr.length → endF (M.t i) j = (frAt (M.t i) (j + 1)).ret := fun h => if_pos h
  have hW0 : Below W.heap.size W W := Below.refl _ _
  clear hF hva v1 v2 l1 l2 hA HV hf hi hclo24
  rw [hmidE] at *
  generalize endF (M.t i) j = en at *
  generalize (frAt (M.t i) j).clo = clo at *
  generalize (frAt (M.t i) j).pc = pc at *
  generalize (frAt (M.t i) j).base = base at *
  generalize (frAt (M.t i) j).prot = prot at *
  generalize (M.p clo).ns = ns at *
  generalize valsP (slF M (M.t i) j) = z1 at *
  generalize valsP (opF M (M.t i) j) = z2 at *
  generalize (frAt (M.t i) (j + 1)).ret = rt at *
  generalize (M.t i).sk = sk at *
  generalize (M.t i).fr.length = nf at *
  generalize itoaL (clo : Int) = y1 at *
  generalize itoaL (pc : Int) = y2 at *
  generalize sk.length = sl at *
  obtain ⟨k1, k2, k3, k4, k5, k6, k7, k8, k9, k10, k11, k12, k13, k14, k15, k16, k17, k18, k19, k20⟩ := id hC
  have HC : Hid (SfC W m a M i j fb nf fcp pb pn pcp cb cn ccp clo P pc base ns prot) := hC
  obtain ⟨mid, hmd⟩ : ∃ mid, mid = base + ns := ⟨_, rfl⟩
  rw [← hmd] at HV2 n2 hmid hbnd
  have hsum : (base : Int) + (ns : Int) = (mid : Int) := by omega
  have hns : mid - base = ns := by omega
  clear hmd
  have hw2 : IntKind.i64.wrap ((j : Int) + 1) = ((j + 1 : Nat) : Int) := by rw [IntWalk.i64_in _ ⟨by omega, by omega⟩]; omega
  rcases s3 with ⟨rfl, rfl, h0⟩ | ⟨sb, rfl, hsb, s3⟩
  · have hj1 := hgap h0
    have hen := hendL hj1
    obtain ⟨hz1, hz2⟩ := HZ.out h0
    have hb0 : base = 0 := by omega
    have hn0 : ns = 0 := by omega
    have hm0 : mid = 0 := by omega
    have he0 : en = 0 := by omega
    subst hb0 hn0 hm0 he0 hz1 hz2
    rw [h0] at s1
    have d1 : decide (((j + 1 : Nat) : Int) < (nf : Int)) = false := decide_eq_false (by omega)
    clear hret hendL hendI hgap HZ hen HV1 HV2
    go_enter Tryz.func15, Tryz.ntmps15
    go_wp2_with fail
    go_quiet (fail)
    go_wp2_with fail
    refine (HI1 _).mono ?_; rintro e w1 ⟨rfl, hb1⟩
    have hb1 := below_two (below_drewN (Below.refl _ _) nq) hb1
    obtain ⟨k1, -, -, k4, k5, k6, k7, k8, k9, k10, k11, -, -, -, -, k16, k17, k18, k19, k20⟩ := HC.out.below hb1
    have HB1 : Hid (Below W.heap.size W w1) := hb1
    clear hb1 HI1
    go_wp2_with fail
    refine (HI2 _).mono ?_; rintro e w2 ⟨rfl, hb2⟩
    have hb2 := below_two HB1.out hb2
    have s1' := (hb2.cell (p := ⟨a, i * 5 + 2, none⟩) HC.out.al).trans s1
    obtain ⟨k1, -, -, k4, k5, k6, k7, k8, k9, k10, k11, -, -, -, -, k16, k17, k18, k19, k20⟩ := HC.out.below hb2
    have HB2 : Hid (Below W.heap.size W w2) := hb2
    clear hb2 HI2 HB1
    go_upto_region 9 with fail
    go_upto_if 79 with fail
    go_cut [12] from 76 to 79 (fun s12 wx => s12 = .string ⟨(if prot then [112] else [45] : List UInt8).toArray⟩ ∧ wx = w2)
    case first =>
      cases prot
      · go_wp2_with fail
        go_meet
        case rel => exact ⟨rfl, rfl⟩
      · go_wp2_with fail
        go_meet
        case rel => exact ⟨rfl, rfl⟩
    obtain ⟨rfl, hcut⟩ := hcut
    have hcut := hcut.symm
    subst hcut
    have hz5 : (if prot then [112] else [45] : List UInt8).length = 1 := by cases prot <;> rfl
    generalize (if prot then [112] else [45] : List UInt8) = z5 at *
    have HQ1 := vals_nil w2.drew none 0
    go_upto_region 11 with fail
    go_cut [13] from 80 to 90 (fun s13 wx => s13 = .string ⟨([] : List UInt8).toArray⟩ ∧ Hid (Below W.heap.size W wx))
    case first =>
      go_region_with (go_at_call 34; refine HQ1.mono ?_; rintro e w3 ⟨rfl, hb3⟩; have HB3 : Hid (Below W.heap.size W w3) := below_two HB2.out (below_two (below_drewN (Below.refl _ _) 1) hb3); clear hb3)
      all_goals
        go_wp2_with fail
        go_meet
        case rel => exact ⟨rfl, HB3⟩
    obtain ⟨rfl, HB3⟩ := hcut
    generalize wc = w3 at *
    have s1' := (HB3.out.cell (p := ⟨a, i * 5 + 2, none⟩) HC.out.al).trans s1
    obtain ⟨k1, -, -, k4, k5, k6, k7, k8, k9, k10, k11, -, -, -, -, k16, k17, k18, k19, k20⟩ := HC.out.below HB3.out
    have HQ2 := vals_nil w3 none 0
    go_wp2_with fail
    refine HQ2.mono ?_; rintro e w4 ⟨rfl, hb4⟩
    have HB4 : Hid (Below W.heap.size W w4) := below_two HB3.out hb4
    clear hb4 HQ2
    have HPA : PA (w4.alloc (.cells #[.string ⟨([40] : List UInt8).toArray⟩, .string ⟨y1.toArray⟩, .string ⟨([44] : List UInt8).toArray⟩, .string ⟨y2.toArray⟩, .string ⟨z5.toArray⟩, .string ⟨([59] : List UInt8).toArray⟩, .string ⟨([] : List UInt8).toArray⟩, .string ⟨([59] : List UInt8).toArray⟩, .string ⟨([] : List UInt8).toArray⟩, .string ⟨([41] : List UInt8).toArray⟩] 9)) w4.heap.size 0 [[40], y1, [44], y2, z5, [59], [], [59], [], [41]] := by
      refine ⟨by simp only [World.size_alloc]; omega, fun q s hq => ?_⟩
      rw [Nat.zero_add, box_cell (World.alloc_heap_new _ _)]
      rcases (by have := (List.getElem?_eq_some_iff.1 hq).1; simp at this; omega : q = 0 ∨ q = 1 ∨ q = 2 ∨ q = 3 ∨ q = 4 ∨ q = 5 ∨ q = 6 ∨ q = 7 ∨ q = 8 ∨ q = 9) with rfl | rfl | rfl | rfl | rfl | rfl | rfl | rfl | rfl | rfl <;> (cases hq; rfl)
    have HJ : Calls Tryz.prog 14 #[.slice (some ⟨w4.heap.size, 0, none⟩) 10 10] (w4.alloc (.cells #[.string ⟨#[40]⟩, .string ⟨y1.toArray⟩, .string ⟨#[44]⟩, .string ⟨y2.toArray⟩, .string ⟨z5.toArray⟩, .string ⟨#[59]⟩, .string ⟨([] : List UInt8).toArray⟩, .string ⟨#[59]⟩, .string ⟨([] : List UInt8).toArray⟩, .string ⟨#[41]⟩] 9)) (fun e W' => e = .returned (.string ⟨([[40], y1, [44], y2, z5, [59], [], [59], [], [41]] : List (List UInt8)).flatten.toArray⟩) ∧ Below (w4.alloc (.cells #[.string ⟨#[40]⟩, .string ⟨y1.toArray⟩, .string ⟨#[44]⟩, .string ⟨y2.toArray⟩, .string ⟨z5.toArray⟩, .string ⟨#[59]⟩, .string ⟨([] : List UInt8).toArray⟩, .string ⟨#[59]⟩, .string ⟨([] : List UInt8).toArray⟩, .string ⟨#[41]⟩] 9)).heap.size (w4.alloc (.cells #[.string ⟨#[40]⟩, .string ⟨y1.toArray⟩, .string ⟨#[44]⟩, .string ⟨y2.toArray⟩, .string ⟨z5.toArray⟩, .string ⟨#[59]⟩, .string ⟨([] : List UInt8).toArray⟩, .string ⟨#[59]⟩, .string ⟨([] : List UInt8).toArray⟩, .string ⟨#[41]⟩] 9)) W') :=
      join_any _ w4.heap.size 0 10 [[40], y1, [44], y2, z5, [59], [], [59], [], [41]] HPA (by show 10 ≤ 100; decide) (by simp only [List.flatten_cons, List.flatten_nil, List.length_append, List.length_cons, List.length_nil]; omega)
    generalize ([[40], y1, [44], y2, z5, [59], [], [59], [], [41]] : List (List UInt8)).flatten = tx at *
    go_wp2_with fail
    refine HJ.mono ?_; rintro e w5 ⟨rfl, hb5⟩
    have HB5 : Hid (Below W.heap.size W w5) := below_two HB4.out (below_two (below_one _ _) hb5)
    clear hb5 HJ HPA
    go_wp2_with fail
    go_ret
    exact ⟨by rw [HS.out]; rfl, HB5.out⟩
  by_cases hj1 : j + 1 < nf
  · have hen := hendI hj1
    subst hen
    obtain ⟨ka, e1, va1⟩ := s3 base ns (by omega)
    obtain ⟨kb, e2, va2⟩ := s3 mid (en - mid) (by omega)
    have d1 : decide (((j + 1 : Nat) : Int) < (nf : Int)) = true := decide_eq_true (by omega)
    have hf3 := hret hj1
    have HVA : Hid (VA W sb ka ((sk.drop base).take ns) ∧ VA W sb kb ((sk.drop mid).take (en - mid))) := ⟨va1, va2⟩
    clear s3 va1 va2 hret hendL hendI hgap HZ
    go_enter Tryz.func15, Tryz.ntmps15
    go_wp2_with fail
    go_quiet (fail)
    go_wp2_with fail
    refine (HI1 _).mono ?_; rintro e w1 ⟨rfl, hb1⟩
    have hb1 := below_two (below_drewN (Below.refl _ _) nq) hb1
    obtain ⟨k1, -, -, k4, k5, k6, k7, k8, k9, k10, k11, -, -, -, -, k16, k17, k18, k19, k20⟩ := HC.out.below hb1
    have HB1 : Hid (Below W.heap.size W w1) := hb1
    clear hb1 HI1
    go_wp2_with fail
    refine (HI2 _).mono ?_; rintro e w2 ⟨rfl, hb2⟩
    have hb2 := below_two HB1.out hb2
    have s1' := (hb2.cell (p := ⟨a, i * 5 + 2, none⟩) HC.out.al).trans s1
    obtain ⟨k1, -, -, k4, k5, k6, k7, k8, k9, k10, k11, -, -, -, -, k16, k17, k18, k19, k20⟩ := HC.out.below hb2
    have HB2 : Hid (Below W.heap.size W w2) := hb2
    clear hb2 HI2 HB1
    go_upto_region 9 with fail
    go_upto_if 79 with fail
    go_cut [12] from 76 to 79 (fun s12 wx => s12 = .string ⟨(if prot then [112] else [45] : List UInt8).toArray⟩ ∧ wx = w2)
    case first =>
      cases prot
      · go_wp2_with fail
        go_meet
        case rel => exact ⟨rfl, rfl⟩
      · go_wp2_with fail
        go_meet
        case rel => exact ⟨rfl, rfl⟩
    obtain ⟨rfl, hcut⟩ := hcut
    have hcut := hcut.symm
    subst hcut
    have hz5 : (if prot then [112] else [45] : List UInt8).length = 1 := by cases prot <;> rfl
    generalize (if prot then [112] else [45] : List UInt8) = z5 at *
    have HQ1 := HV1.out sb ka w2.drew (cp - base) (HVA.out.1.below (below_two HB2.out (below_drewN (Below.refl _ _) 1)))
    go_upto_region 11 with fail
    go_cut [13] from 80 to 90 (fun s13 wx => s13 = .string ⟨z1.toArray⟩ ∧ Hid (Below W.heap.size W wx))
    case first =>
      go_region_with (go_at_call 34; refine HQ1.mono ?_; rintro e w3 ⟨rfl, hb3⟩; have HB3 : Hid (Below W.heap.size W w3) := below_two HB2.out (below_two (below_drewN (Below.refl _ _) 1) hb3); clear hb3)
      all_goals
        go_wp2_with fail
        go_meet
        case rel => exact ⟨rfl, HB3⟩
    obtain ⟨rfl, HB3⟩ := hcut
    generalize wc = w3 at *
    have s1' := (HB3.out.cell (p := ⟨a, i * 5 + 2, none⟩) HC.out.al).trans s1
    obtain ⟨k1, -, -, k4, k5, k6, k7, k8, k9, k10, k11, -, -, -, -, k16, k17, k18, k19, k20⟩ := HC.out.below HB3.out
    have HQ2 := HV2.out sb kb w3 (cp - mid) (HVA.out.2.below HB3.out)
    go_wp2_with fail
    refine HQ2.mono ?_; rintro e w4 ⟨rfl, hb4⟩
    have HB4 : Hid (Below W.heap.size W w4) := below_two HB3.out hb4
    clear hb4 HQ2
    have HPA : PA (w4.alloc (.cells #[.string ⟨([40] : List UInt8).toArray⟩, .string ⟨y1.toArray⟩, .string ⟨([44] : List UInt8).toArray⟩, .string ⟨y2.toArray⟩, .string ⟨z5.toArray⟩, .string ⟨([59] : List UInt8).toArray⟩, .string ⟨z1.toArray⟩, .string ⟨([59] : List UInt8).toArray⟩, .string ⟨z2.toArray⟩, .string ⟨([41] : List UInt8).toArray⟩] 9)) w4.heap.size 0 [[40], y1, [44], y2, z5, [59], z1, [59], z2, [41]] := by
      refine ⟨by simp only [World.size_alloc]; omega, fun q s hq => ?_⟩
      rw [Nat.zero_add, box_cell (World.alloc_heap_new _ _)]
      rcases (by have := (List.getElem?_eq_some_iff.1 hq).1; simp at this; omega : q = 0 ∨ q = 1 ∨ q = 2 ∨ q = 3 ∨ q = 4 ∨ q = 5 ∨ q = 6 ∨ q = 7 ∨ q = 8 ∨ q = 9) with rfl | rfl | rfl | rfl | rfl | rfl | rfl | rfl | rfl | rfl <;> (cases hq; rfl)
    have HJ : Calls Tryz.prog 14 #[.slice (some ⟨w4.heap.size, 0, none⟩) 10 10] (w4.alloc (.cells #[.string ⟨#[40]⟩, .string ⟨y1.toArray⟩, .string ⟨#[44]⟩, .string ⟨y2.toArray⟩, .string ⟨z5.toArray⟩, .string ⟨#[59]⟩, .string ⟨z1.toArray⟩, .string ⟨#[59]⟩, .string ⟨z2.toArray⟩, .string ⟨#[41]⟩] 9)) (fun e W' => e = .returned (.string ⟨([[40], y1, [44], y2, z5, [59], z1, [59], z2, [41]] : List (List UInt8)).flatten.toArray⟩) ∧ Below (w4.alloc (.cells #[.string ⟨#[40]⟩, .string ⟨y1.toArray⟩, .string ⟨#[44]⟩, .string ⟨y2.toArray⟩, .string ⟨z5.toArray⟩, .string ⟨#[59]⟩, .string ⟨z1.toArray⟩, .string ⟨#[59]⟩, .string ⟨z2.toArray⟩, .string ⟨#[41]⟩] 9)).heap.size (w4.alloc (.cells #[.string ⟨#[40]⟩, .string ⟨y1.toArray⟩, .string ⟨#[44]⟩, .string ⟨y2.toArray⟩, .string ⟨z5.toArray⟩, .string ⟨#[59]⟩, .string ⟨z1.toArray⟩, .string ⟨#[59]⟩, .string ⟨z2.toArray⟩, .string ⟨#[41]⟩] 9)) W') :=
      join_any _ w4.heap.size 0 10 [[40], y1, [44], y2, z5, [59], z1, [59], z2, [41]] HPA (by show 10 ≤ 100; decide) (by simp only [List.flatten_cons, List.flatten_nil, List.length_append, List.length_cons, List.length_nil]; omega)
    generalize ([[40], y1, [44], y2, z5, [59], z1, [59], z2, [41]] : List (List UInt8)).flatten = tx at *
    go_wp2_with fail
    refine HJ.mono ?_; rintro e w5 ⟨rfl, hb5⟩
    have HB5 : Hid (Below W.heap.size W w5) := below_two HB4.out (below_two (below_one _ _) hb5)
    clear hb5 HJ HPA
    go_wp2_with fail
    go_ret
    exact ⟨by rw [HS.out]; rfl, HB5.out⟩
  · have hen := hendL hj1
    subst hen
    obtain ⟨ka, e1, va1⟩ := s3 base ns (by omega)
    obtain ⟨kb, e2, va2⟩ := s3 mid (en - mid) (by omega)
    have d1 : decide (((j + 1 : Nat) : Int) < (nf : Int)) = false := decide_eq_false (by omega)
    have HVA : Hid (VA W sb ka ((sk.drop base).take ns) ∧ VA W sb kb ((sk.drop mid).take (en - mid))) := ⟨va1, va2⟩
    clear s3 va1 va2 hret hendL hendI hgap HZ
    go_enter Tryz.func15, Tryz.ntmps15
    go_wp2_with fail
    go_quiet (fail)
    go_wp2_with fail
    refine (HI1 _).mono ?_; rintro e w1 ⟨rfl, hb1⟩
    have hb1 := below_two (below_drewN (Below.refl _ _) nq) hb1
    obtain ⟨k1, -, -, k4, k5, k6, k7, k8, k9, k10, k11, -, -, -, -, k16, k17, k18, k19, k20⟩ := HC.out.below hb1
    have HB1 : Hid (Below W.heap.size W w1) := hb1
    clear hb1 HI1
    go_wp2_with fail
    refine (HI2 _).mono ?_; rintro e w2 ⟨rfl, hb2⟩
    have hb2 := below_two HB1.out hb2
    have s1' := (hb2.cell (p := ⟨a, i * 5 + 2, none⟩) HC.out.al).trans s1
    obtain ⟨k1, -, -, k4, k5, k6, k7, k8, k9, k10, k11, -, -, -, -, k16, k17, k18, k19, k20⟩ := HC.out.below hb2
    have HB2 : Hid (Below W.heap.size W w2) := hb2
    clear hb2 HI2 HB1
    go_upto_region 9 with fail
    go_upto_if 79 with fail
    go_cut [12] from 76 to 79 (fun s12 wx => s12 = .string ⟨(if prot then [112] else [45] : List UInt8).toArray⟩ ∧ wx = w2)
    case first =>
      cases prot
      · go_wp2_with fail
        go_meet
        case rel => exact ⟨rfl, rfl⟩
      · go_wp2_with fail
        go_meet
        case rel => exact ⟨rfl, rfl⟩
    obtain ⟨rfl, hcut⟩ := hcut
    have hcut := hcut.symm
    subst hcut
    have hz5 : (if prot then [112] else [45] : List UInt8).length = 1 := by cases prot <;> rfl
    generalize (if prot then [112] else [45] : List UInt8) = z5 at *
    have HQ1 := HV1.out sb ka w2.drew (cp - base) (HVA.out.1.below (below_two HB2.out (below_drewN (Below.refl _ _) 1)))
    go_upto_region 11 with fail
    go_cut [13] from 80 to 90 (fun s13 wx => s13 = .string ⟨z1.toArray⟩ ∧ Hid (Below W.heap.size W wx))
    case first =>
      go_region_with (go_at_call 34; refine HQ1.mono ?_; rintro e w3 ⟨rfl, hb3⟩; have HB3 : Hid (Below W.heap.size W w3) := below_two HB2.out (below_two (below_drewN (Below.refl _ _) 1) hb3); clear hb3)
      all_goals
        go_wp2_with fail
        go_meet
        case rel => exact ⟨rfl, HB3⟩
    obtain ⟨rfl, HB3⟩ := hcut
    generalize wc = w3 at *
    have s1' := (HB3.out.cell (p := ⟨a, i * 5 + 2, none⟩) HC.out.al).trans s1
    obtain ⟨k1, -, -, k4, k5, k6, k7, k8, k9, k10, k11, -, -, -, -, k16, k17, k18, k19, k20⟩ := HC.out.below HB3.out
    have HQ2 := HV2.out sb kb w3 (cp - mid) (HVA.out.2.below HB3.out)
    go_wp2_with fail
    refine HQ2.mono ?_; rintro e w4 ⟨rfl, hb4⟩
    have HB4 : Hid (Below W.heap.size W w4) := below_two HB3.out hb4
    clear hb4 HQ2
    have HPA : PA (w4.alloc (.cells #[.string ⟨([40] : List UInt8).toArray⟩, .string ⟨y1.toArray⟩, .string ⟨([44] : List UInt8).toArray⟩, .string ⟨y2.toArray⟩, .string ⟨z5.toArray⟩, .string ⟨([59] : List UInt8).toArray⟩, .string ⟨z1.toArray⟩, .string ⟨([59] : List UInt8).toArray⟩, .string ⟨z2.toArray⟩, .string ⟨([41] : List UInt8).toArray⟩] 9)) w4.heap.size 0 [[40], y1, [44], y2, z5, [59], z1, [59], z2, [41]] := by
      refine ⟨by simp only [World.size_alloc]; omega, fun q s hq => ?_⟩
      rw [Nat.zero_add, box_cell (World.alloc_heap_new _ _)]
      rcases (by have := (List.getElem?_eq_some_iff.1 hq).1; simp at this; omega : q = 0 ∨ q = 1 ∨ q = 2 ∨ q = 3 ∨ q = 4 ∨ q = 5 ∨ q = 6 ∨ q = 7 ∨ q = 8 ∨ q = 9) with rfl | rfl | rfl | rfl | rfl | rfl | rfl | rfl | rfl | rfl <;> (cases hq; rfl)
    have HJ : Calls Tryz.prog 14 #[.slice (some ⟨w4.heap.size, 0, none⟩) 10 10] (w4.alloc (.cells #[.string ⟨#[40]⟩, .string ⟨y1.toArray⟩, .string ⟨#[44]⟩, .string ⟨y2.toArray⟩, .string ⟨z5.toArray⟩, .string ⟨#[59]⟩, .string ⟨z1.toArray⟩, .string ⟨#[59]⟩, .string ⟨z2.toArray⟩, .string ⟨#[41]⟩] 9)) (fun e W' => e = .returned (.string ⟨([[40], y1, [44], y2, z5, [59], z1, [59], z2, [41]] : List (List UInt8)).flatten.toArray⟩) ∧ Below (w4.alloc (.cells #[.string ⟨#[40]⟩, .string ⟨y1.toArray⟩, .string ⟨#[44]⟩, .string ⟨y2.toArray⟩, .string ⟨z5.toArray⟩, .string ⟨#[59]⟩, .string ⟨z1.toArray⟩, .string ⟨#[59]⟩, .string ⟨z2.toArray⟩, .string ⟨#[41]⟩] 9)).heap.size (w4.alloc (.cells #[.string ⟨#[40]⟩, .string ⟨y1.toArray⟩, .string ⟨#[44]⟩, .string ⟨y2.toArray⟩, .string ⟨z5.toArray⟩, .string ⟨#[59]⟩, .string ⟨z1.toArray⟩, .string ⟨#[59]⟩, .string ⟨z2.toArray⟩, .string ⟨#[41]⟩] 9)) W') :=
      join_any _ w4.heap.size 0 10 [[40], y1, [44], y2, z5, [59], z1, [59], z2, [41]] HPA (by show 10 ≤ 100; decide) (by simp only [List.flatten_cons, List.flatten_nil, List.length_append, List.length_cons, List.length_nil]; omega)
    generalize ([[40], y1, [44], y2, z5, [59], z1, [59], z2, [41]] : List (List UInt8)).flatten = tx at *
    go_wp2_with fail
    refine HJ.mono ?_; rintro e w5 ⟨rfl, hb5⟩
    have HB5 : Hid (Below W.heap.size W w5) := below_two HB4.out (below_two (below_one _ _) hb5)
    clear hb5 HJ HPA
    go_wp2_with fail
    go_ret
    exact ⟨by rw [HS.out]; rfl, HB5.out⟩
end Go.Proofs.Qxb6500293aGreatRR
