/-
  checkThread walked: a thread that stands at a call.
-/
import Derived.Test.Qxb6500293aGreatRRB2
import Derived.Test.Qxb6500293aGreatRRSp
namespace Go.Proofs.Qxb6500293aGreatRR
open Go.RowKit
open Ieee (double)
set_option linter.unusedVariables false
set_option linter.unusedSimpArgs false

/-- The open cells from o on lie in frame j or above it. -/
def OI (M : Mc) (t : Th) (o j : Nat) : Prop := ∀ q c, o ≤ q → t.op[q]? = some c → j < t.fr.length ∧ (frAt t j).base ≤ (M.x c).at'
theorem pair_le {M : Mc} : ∀ {l : List Nat}, l.Pairwise (fun a b => (M.x a).at' < (M.x b).at') → ∀ {o q c d : Nat}, l[o]? = some c → l[q]? = some d → o ≤ q → (M.x c).at' ≤ (M.x d).at'
  | [], _, o, q, c, d, h, _, _ => by simp at h
  | a :: l, hp, 0, 0, c, d, h1, h2, _ => by
    rw [h1] at h2; injection h2 with h2; rw [h2]; exact Nat.le_refl _
  | a :: l, hp, 0, q + 1, c, d, h1, h2, _ => by
    have h1 : a = c := by simpa using h1
    have h2 : l[q]? = some d := by simpa using h2
    rw [← h1]
    exact Nat.le_of_lt ((List.pairwise_cons.1 hp).1 d (List.mem_of_getElem? h2))
  | a :: l, hp, o + 1, 0, c, d, h1, h2, h => by omega
  | a :: l, hp, o + 1, q + 1, c, d, h1, h2, h => by
    have h1 : l[o]? = some c := by simpa using h1
    have h2 : l[q]? = some d := by simpa using h2
    exact pair_le (List.pairwise_cons.1 hp).2 h1 h2 (by omega)
theorem pair_lt {M : Mc} {l : List Nat} (hp : l.Pairwise (fun a b => (M.x a).at' < (M.x b).at')) {o c d : Nat} (h1 : l[o]? = some c) (h2 : l[o + 1]? = some d) : (M.x c).at' < (M.x d).at' := by
  induction l generalizing o with
  | nil => simp at h1
  | cons a l ih =>
    cases o with
    | zero =>
      have h1 : a = c := by simpa using h1
      have h2 : l[0]? = some d := by simpa using h2
      rw [← h1]
      exact (List.pairwise_cons.1 hp).1 d (List.mem_of_getElem? h2)
    | succ o =>
      exact ih (List.pairwise_cons.1 hp).2 (o := o) (by simpa using h1) (by simpa using h2)
theorem OI_next {M : Mc} {i : Nat} {t : Th} (hT : ThOk M none i t) {j o : Nat} (hj : j < t.fr.length) (h : ∀ c, t.op[o]? = some c → (frAt t j).base + (M.p (frAt t j).clo).ns ≤ (M.x c).at') : OI M t o (j + 1) := by
  intro q c hq hc
  have hlq := (List.getElem?_eq_some_iff.1 hc).1
  obtain ⟨c0, hc0⟩ : ∃ c0, t.op[o]? = some c0 := ⟨_, List.getElem?_eq_getElem (by omega)⟩
  have h1 := h c0 hc0
  have h2 := pair_le hT.ops hc0 hc hq
  obtain ⟨j', f, hf, b1, b2⟩ := (hT.opm c (List.mem_of_getElem? hc)).2.2
  have hjf : t.fr[j]? = some (frAt t j) := at_some hj
  have hlt : j < j' := by
    rcases Nat.lt_trichotomy j j' with hlt | heq | hgt
    · exact hlt
    · subst heq
      rw [hjf] at hf
      injection hf with hf
      rw [← hf] at b2
      omega
    · obtain ⟨k, rfl⟩ : ∃ k, j = j' + (k + 1) := ⟨j - j' - 1, by omega⟩
      have h3 := hT.mono hf hjf
      have h4 := (hT.frs _ _ hjf).ret
      omega
  have hl' := (List.getElem?_eq_some_iff.1 hf).1
  refine ⟨by omega, ?_⟩
  have hj1 : t.fr[j + 1]? = some (frAt t (j + 1)) := at_some (by omega)
  by_cases e : j' = j + 1
  · subst e
    rw [hj1] at hf
    injection hf with hf
    rw [hf]
    exact b1
  · obtain ⟨k, rfl⟩ : ∃ k, j' = j + 1 + (k + 1) := ⟨j' - (j + 1) - 1, by omega⟩
    have h3 := hT.mono hj1 hf
    have h4 := (hT.frs _ _ hf).ret
    omega
set_option maxRecDepth 16000 in
set_option maxHeartbeats 16000000 in
def pt_B3 : Sp1 (∀ (own : Nat → Nat) (W : World) (m a nb tp : Nat) (M : Mc) (HV : Vm own W m a nb tp M) (hA : Alive M none) (i : Nat) (hi : i < M.th.length) (hd : (M.t i).st = 2 ∨ (M.t i).st = 3), Calls Tryz.prog 47 #[.pointer (some ⟨m, 0, none⟩), i64 i, .bool false, .int .i64 0] W fun e w' => e = .returned (.bool true) ∧ Below W.heap.size W w') :=
  Sp1.mk _ (fun bxh1 => by
    intro own W m a nb tp M HV hA i hi hd
    have hT := hA.th i hi
    have hf1 := hT.fr1 (by omega) (by omega)
    have hf8 := hT.fr8
    have h5 := hA.th5
    have hsk := sk_bound hA hi
    obtain ⟨ca, fa, sa, oa, xa, cc, fc, sc, oc, xc, ⟨c9, t0, t1, t2, t3q, t4, m6, m8, ml, al⟩⟩ := HV.ctC hi
    obtain ⟨fb, fcp, t3, fl, flt, fcell⟩ := HV.frAll hi hf1
    obtain ⟨oa', oc', t4', ocell⟩ := HV.opQ hi
    have eo : oa' = oa := by rw [t4] at t4'; cases t4'; rfl
    have eo2 : oc' = oc := by rw [t4] at t4'; cases t4'; rfl
    subst eo eo2
    obtain ⟨xa', xc', m8q, xcell⟩ := HV.rowAll 6 (by omega) (fun L => (row_lo M L).2.2.2.2.2.2.1) ceC_len (by decide)
    have m8' : W.cell? ⟨m, 8, none⟩ = some (.slice xa' M.ce.length xc') := m8q
    have ex : xa' = xa := by rw [m8] at m8'; cases m8'; rfl
    have ex2 : xc' = xc := by rw [m8] at m8'; cases m8'; rfl
    subst ex ex2
    have hfn := hT.fn
    have h24 := hA.cl.cs24
    have hm1 := hT.main1
    have hce := hA.ux.2
    have hop : (M.t i).op.length ≤ 6200 := by have := hA.opLen hi; omega
    have HF : Hid (∀ j, j < (M.t i).fr.length → W.cell? ⟨fb, j * 5, none⟩ = some (i64 (frAt (M.t i) j).clo) ∧ W.cell? ⟨fb, j * 5 + 1, none⟩ = some (i64 (frAt (M.t i) j).pc) ∧ W.cell? ⟨fb, j * 5 + 2, none⟩ = some (i64 (frAt (M.t i) j).base) ∧ W.cell? ⟨fb, j * 5 + 3, none⟩ = some (i64 (frAt (M.t i) j).ret) ∧ W.cell? ⟨fb, j * 5 + 4, none⟩ = some (.bool (frAt (M.t i) j).prot)) := fcell
    have HOC : Hid (∀ k c, (M.t i).op[k]? = some c → ∃ b, oa' = some ⟨b, 0, none⟩ ∧ b < W.heap.size ∧ (M.t i).op.length ≤ oc' ∧ W.cell? ⟨b, k, none⟩ = some (i64 c)) := ocell
    have HXC : Hid (∀ k x, M.ce[k]? = some x → ∃ b, xa' = some ⟨b, 0, none⟩ ∧ b < W.heap.size ∧ M.ce.length ≤ xc' ∧ ∀ q u, (ceC x)[q]? = some u → W.cell? ⟨b, k * 5 + q, none⟩ = some u) := xcell
    have HH : Hid (Vm own W m a nb tp M ∧ Alive M none ∧ i < M.th.length) := ⟨HV, hA, hi⟩
    have HT : Hid (ThOk M none i (M.t i)) := hT
    clear t3q hT hA HV fcell ocell xcell t4' m8' m8q
    generalize (M.t i).fn = fn at *
    generalize (M.t i).st = st at *
    generalize M.cs.length = cn at *
    generalize htl : M.th.length = tl at *
    obtain ⟨nf, hnf⟩ : ∃ nf, nf = (M.t i).fr.length := ⟨_, rfl⟩
    rw [← hnf] at t3 fl hf1 hf8 HF
    obtain ⟨ol, hol⟩ : ∃ ol, ol = (M.t i).op.length := ⟨_, rfl⟩
    rw [← hol] at t4 HOC hop
    obtain ⟨sl, hsl⟩ : ∃ sl, sl = (M.t i).sk.length := ⟨_, rfl⟩
    rw [← hsl] at t2 hsk
    obtain ⟨xl, hxl⟩ : ∃ xl, xl = M.ce.length := ⟨_, rfl⟩
    rw [← hxl] at m8 HXC hce
    have HLN : Hid (nf = (M.t i).fr.length ∧ ol = (M.t i).op.length ∧ sl = (M.t i).sk.length ∧ xl = M.ce.length) := ⟨hnf, hol, hsl, hxl⟩
    clear hnf hol hsl hxl htl
    have f1 : decide ((cn : Int) ≤ (fn : Int)) = false := decide_eq_false (by omega)
    have s4 : ((st : Int) == 4) = false := by rw [beq_eq_false_iff_ne]; omega
    have s1 : ((st : Int) == 1) = false := by rw [beq_eq_false_iff_ne]; omega
    have s5 : ((st : Int) == 5) = false := by rw [beq_eq_false_iff_ne]; omega
    have n1 : decide ((nf : Int) < 1) = false := decide_eq_false (by omega)
    have n8 : decide ((8 : Int) < (nf : Int)) = false := decide_eq_false (by omega)
    go_enter Tryz.func47, Tryz.ntmps47
    go_wp2_with fail
    go_quiet (fail)
    revert nq; intro nq1
    go_upto_region 4 with fail
    rename_i ix1 ix2 ix3 ix4 ix5 ix6
    revert own W m a nb tp M i ca fa sa cc fc sc ml al fb fcp flt oa' oc' xa' xc' HT fn t1 st hd t0 hm1 cn m6 h24 hfn tl hi h5 c9 HH nf HF hf8 hf1 fl t3 ol hop HOC t4 sl hsk t2 xl hce HXC m8 HLN f1 s4 s1 s5 n1 n8 ix1 nq1 ix2 ix3 ix4 ix5 ix6
    exact bxh1.out
  )
end Go.Proofs.Qxb6500293aGreatRR
