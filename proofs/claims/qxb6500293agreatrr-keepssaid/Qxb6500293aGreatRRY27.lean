/-
  plain, all instructions.
-/
import Derived.Test.Qxb6500293aGreatRRY26
namespace Go.Proofs.Qxb6500293aGreatRR
open Go.RowKit
open Ieee (double)
set_option linter.unusedVariables false
set_option linter.unusedSimpArgs false

theorem capP_sk {K : Mc} {i : Nat} (hi : i < K.th.length) (at' : Nat) : (capP K i at').1.th.length = K.th.length ∧ ((capP K i at').1.t i).sk = (K.t i).sk := by
  unfold capP
  simp only
  split
  · exact ⟨rfl, rfl⟩
  · refine ⟨th_setT _ _ _, ?_⟩
    show ((K.setT i _).t i).sk = _
    rw [t_setT hi]
theorem closF_sk (i base clo : Nat) : ∀ (l : List (Nat × Nat)) (K : Mc), i < K.th.length → (closF i base clo l K).th.length = K.th.length ∧ ((closF i base clo l K).t i).sk = (K.t i).sk
  | [], K, _ => ⟨rfl, rfl⟩
  | d :: r, K, hi => by
    have h1 : (clos1 K i base clo d).th.length = K.th.length ∧ ((clos1 K i base clo d).t i).sk = (K.t i).sk := by
      unfold clos1
      split
      · exact capP_sk hi _
      · exact ⟨rfl, rfl⟩
    obtain ⟨h2, h3⟩ := closF_sk i base clo r (clos1 K i base clo d) (by rw [h1.1]; exact hi)
    exact ⟨h2.trans h1.1, h3.trans h1.2⟩
theorem closP_k (M : Mc) (i x : Nat) : (closP M i x).k ≠ 2 := by
  unfold closP
  split
  · show (3 : Nat) ≠ 2; decide
  · show (0 : Nat) ≠ 2; decide
theorem closP_sk {M : Mc} {i : Nat} (hi : i < M.th.length) (x : Nat) (hs : (M.t i).sk.length ≤ 20000) (h : (closP M i x).k = 0) : i < (closP M i x).M.th.length ∧ ((closP M i x).M.t i).sk.length ≤ 20000 ∧ (closP M i x).x ≤ 100 := by
  unfold closP at h ⊢
  by_cases h24 : 24 ≤ M.cs.length
  · rw [if_pos h24] at h
    cases h
  · rw [if_neg h24]
    obtain ⟨h1, h2⟩ := closF_sk i (M.t i).f.base (M.t i).f.clo (descs M x) M hi
    refine ⟨?_, ?_, ?_⟩
    · show i < (closF i (M.t i).f.base (M.t i).f.clo (descs M x) M).th.length
      rw [h1]; exact hi
    · show ((closF i (M.t i).f.base (M.t i).f.clo (descs M x) M).t i).sk.length ≤ 20000
      rw [h2]; exact hs
    · show M.cs.length ≤ 100
      omega
theorem Alive.closOk {M : Mc} {i : Nat} (hA : Alive M (some i)) (hi : i < M.th.length) {x : Nat} (hs : soundP M i 28 x = true) : ClosOk M i x := by
  obtain ⟨r1, r2, r3, r4, r5, r6, r7⟩ := hA.runs hi
  have hs : (decide (x < M.pr.length) && ((M.ds.drop (M.pr[x]?.getD dP).up).take (M.pr[x]?.getD dP).nup).all (descOk (M.p (M.t i).f.clo).ns (M.c (M.t i).f.clo).nup)) = true := hs
  simp only [Bool.and_eq_true, decide_eq_true_eq] at hs
  obtain ⟨hx, hd⟩ := hs
  have hp := hA.st.each _ (hA.pro hx)
  have hw := hA.st.win _ (hA.pro hx)
  have hux := hA.ux
  have hsk := sk_bound hA hi
  have hol := hA.opLen hi
  have hcl := hA.clo r4
  have hall := List.all_eq_true.1 hd
  refine ⟨hx, by have := hA.st.pr13; omega, hw.1, hA.st.lds, hp.2.2.2.1, hA.cl.cs24, r4, by omega, hA.st.ds, ?_, by omega, by omega, by omega, fun c hc => ((hA.th i hi).opm c hc).1⟩
  intro d hd' hd1
  have hk := hA.st.ds d (List.mem_of_mem_drop (List.mem_of_mem_take hd'))
  have h0 : d.1 = 0 := by omega
  have h2 := hall d hd'
  unfold descOk at h2
  rw [h0] at h2
  simp at h2
  omega
theorem plain_all {own : Nat → Nat} {W : World} {m a nb tp : Nat} {M : Mc} (HV : Vm own W m a nb tp M) {i : Nat} (hA : Alive M (some i)) (hi : i < M.th.length) {fb n cp pb P : Nat} (hF : PlF W m a M i fb n cp pb) (hP : P = (M.c (M.t i).f.clo).p) (hpa : pb ≠ a) (op x : Nat) (hx : x < 65536) (ht : testP M i op x = true) (hj : op < 21 ∨ op = 25 ∨ 28 ≤ op) :
    Calls Tryz.prog 92 #[.pointer (some ⟨m, 0, none⟩), i64 i, .pointer (some ⟨a, i * 5, none⟩), .pointer (some ⟨fb, n * 5, none⟩), .pointer (some ⟨pb, P * 8, none⟩), .int .u8 (op : Int), i64 x] W (OuEf own W m a nb tp i (plainP M i op x) (fun _ => .tuple #[])) := by
  by_cases h28 : op = 28
  · subst h28
    obtain ⟨P', sl, base, ns, kk, clo, ad, scp, hC⟩ := hF.cells HV hA hi
    obtain ⟨q1, q2, q3, q4, q5, q6⟩ := hC.esl.out
    have hPP : P' = P := by rw [q6, hP]
    subst hPP
    have hsk := sk_bound hA hi
    unfold testP at ht
    rw [Bool.and_eq_true] at ht
    exact plain_28 HV hi hC x hF.fr hF.len (hA.closOk hi ht.1) (closP_sk hi x (by omega)) (closP_k M i x)
  · refine plain_any HV hA hi hF hP hpa op x hx ht ?_
    have hle : op ≤ 32 := by
      have h1 : soundP M i op x = true := by
        unfold testP at ht
        rw [Bool.and_eq_true] at ht
        exact ht.1
      by_cases h : op ≤ 32
      · exact h
      · exfalso
        unfold soundP at h1
        simp only at h1
        rw [if_neg (by omega), if_neg (by omega), if_neg (by omega), if_neg (by omega), if_neg (by omega), if_neg (by omega), if_neg (by omega), if_neg (by omega), if_neg (by omega), if_neg (by omega), if_neg (by omega)] at h1
        simp only [Bool.and_eq_true, decide_eq_true_eq] at h1
        omega
    omega
end Go.Proofs.Qxb6500293aGreatRR
