/-
  THE MACHINE, PLAIN: the invariant is kept: stacks, slots, fuel, output, tables.
-/
import Derived.Test.Qxb6500293aGreatRRY1
namespace Go.Proofs.Qxb6500293aGreatRR
open Ieee (double)
set_option linter.unusedVariables false

theorem t_setT_ne {M : Mc} {i k : Nat} (h : i ≠ k) (t : Th) : (M.setT i t).t k = M.t k := by
  unfold Mc.t Mc.setT
  rw [List.getElem?_set, if_neg h]
theorem t_setT_if {M : Mc} {i k : Nat} (hi : i < M.th.length) (t : Th) : (M.setT i t).t k = if i = k then t else M.t k := by
  by_cases h : i = k
  · subst h
    rw [if_pos rfl]
    exact t_setT hi t
  · rw [if_neg h]
    exact t_setT_ne h t
theorem valid_mono {M M' : Mc} {v : V} (h : validP M v = true) (h1 : M.tb.length ≤ M'.tb.length) (h2 : M.cs.length ≤ M'.cs.length) (h3 : M.th.length ≤ M'.th.length) : validP M' v = true := by
  unfold validP at h ⊢
  rw [Bool.and_eq_true] at h ⊢
  refine ⟨h.1, ?_⟩
  have h := h.2
  by_cases t2 : v.T = 2
  · rw [if_pos t2] at h ⊢; exact h
  rw [if_neg t2] at h ⊢
  by_cases t4 : v.T = 4
  · rw [if_pos t4] at h ⊢; rw [decide_eq_true_eq] at h ⊢; omega
  rw [if_neg t4] at h ⊢
  by_cases t5 : v.T = 5
  · rw [if_pos t5] at h ⊢; rw [decide_eq_true_eq] at h ⊢; omega
  rw [if_neg t5] at h ⊢
  by_cases t7 : v.T = 7
  · rw [if_pos t7] at h ⊢; rw [decide_eq_true_eq] at h ⊢; omega
  rw [if_neg t7]
theorem okV.mono {M M' : Mc} {v : V} (h : okV M v) (h1 : M.tb.length ≤ M'.tb.length) (h2 : M.cs.length ≤ M'.cs.length) (h3 : M.th.length ≤ M'.th.length) : okV M' v := ⟨valid_mono h.1 h1 h2 h3, h.2⟩
theorem ThOk.of {M M' : Mc} {run run' : Option Nat} {i : Nat} {t : Th} (h : ThOk M run i t) (hcs : M.cs.length ≤ M'.cs.length) (hp : ∀ c, c < M.cs.length → M'.p c = M.p c) (hle : M.ce.length ≤ M'.ce.length) (hce : ∀ c ∈ t.op, (M'.x c).th = (M.x c).th ∧ (M'.x c).at' = (M.x c).at') (hth : i = 0 → t.st = 1 → M'.th.length = 1) (hr : run = some i ↔ run' = some i) : ThOk M' run' i t := by
  have hfr : ∀ (j : Nat) (f : Fr), t.fr[j]? = some f → FrOk M' t (if run' = some i then 0 else 2) j f := by
    intro j f hf
    obtain ⟨a1, a2, a3, a4, a5, a6, a7, a8⟩ := h.frs j f hf
    have e := hp f.clo a1
    have e2 : (if run' = some i then 0 else 2) = (if run = some i then 0 else 2) := by
      by_cases c : run = some i
      · rw [if_pos c, if_pos (hr.1 c)]
      · rw [if_neg c, if_neg (fun d => c (hr.2 d))]
    rw [e2]
    exact ⟨by omega, by rw [e]; exact a2, a3, a4, by rw [e]; exact a5, by rw [e]; exact a6, a7, by rw [e]; exact a8⟩
  refine ⟨by have := h.fn; omega, h.isrun.trans hr, h.st, hth, h.main1, h.dead, h.fr1, h.fr8, hfr, ?_, ?_⟩
  · intro c hc
    obtain ⟨b1, b2, j, f, b3, b4, b5⟩ := h.opm c hc
    obtain ⟨e1, e2⟩ := hce c hc
    refine ⟨by omega, by rw [e1]; exact b2, j, f, b3, ?_, ?_⟩
    · rw [e2]; exact b4
    · rw [e2, hp f.clo (h.frs j f b3).clo]; exact b5
  · refine h.ops.imp_of_mem ?_
    intro a b ha hb hab
    rw [(hce a ha).2, (hce b hb).2]
    exact hab
theorem sum_set_same (l : List Th) (i : Nat) (t : Th) (h : ∀ u, l[i]? = some u → t.op.length = u.op.length) : ((l.set i t).map (fun t => t.op.length)).sum = (l.map (fun t => t.op.length)).sum := by
  induction l generalizing i with
  | nil => rfl
  | cons a l ih =>
    cases i with
    | zero =>
      have := h a rfl
      simp only [List.set_cons_zero, List.map_cons, List.sum_cons]
      omega
    | succ i =>
      have := ih i (fun u hu => h u (by simpa using hu))
      simp only [List.set_cons_succ, List.map_cons, List.sum_cons]
      omega
theorem th_at {M : Mc} {i : Nat} (hi : i < M.th.length) : M.th[i]? = some (M.t i) := by
  unfold Mc.t
  rw [List.getElem?_eq_getElem hi]
  rfl
theorem th_mem {M : Mc} {t : Th} (h : t ∈ M.th) : ∃ i, i < M.th.length ∧ t = M.t i := by
  obtain ⟨i, hi, e⟩ := List.mem_iff_getElem.1 h
  exact ⟨i, hi, by unfold Mc.t; rw [List.getElem?_eq_getElem hi, ← e]; rfl⟩
/-- A thread is laid anew, its open list but for nothing. -/
theorem Alive.setT {M : Mc} {run run' : Option Nat} {sl : Nat} (h : Alive M run sl) {i : Nat} (hi : i < M.th.length) (t' : Th) (hop : t'.op = (M.t i).op) (hok : ThOk M run' i t') (hsk : ∀ v ∈ t'.sk, okV M v) (hrun : ∀ k, k ≠ i → (run = some k ↔ run' = some k)) : Alive (M.setT i t') run' sl := by
  have hl : (M.setT i t').th.length = M.th.length := th_setT M i t'
  have okm : ∀ v, okV M v → okV (M.setT i t') v := fun v hv => hv.mono (Nat.le_refl _) (Nat.le_refl _) (by omega)
  refine ⟨h.en, ⟨h.st.pr1, h.st.pr13, h.st.tile, h.st.each, h.st.win, h.st.lds, h.st.lks, h.st.lco, h.st.ds, h.st.co, h.st.ks⟩, ⟨h.cl.cs1, h.cl.cs24, h.cl.tile, h.cl.each, h.cl.ux, h.cl.lux, h.cl.lce, ?_, h.cl.cec, ?_⟩, by omega, by have := h.th5; omega, ?_, ⟨fun v hv => okm v (h.va.ks v hv), fun c hc => okm _ (h.va.ce c hc), ?_, fun t ht e he => ⟨okm _ (h.va.tb t ht e he).1, okm _ (h.va.tb t ht e he).2⟩⟩, ⟨h.ou.fuel, h.ou.out, h.ou.line⟩, h.tb, h.tb12⟩
  · intro x hx hx0
    obtain ⟨k, h1, h2, h3⟩ := h.cl.ceo x hx hx0
    refine ⟨k, h1, by omega, ?_⟩
    rw [t_setT_if hi]
    by_cases c : i = k
    · subst c
      rw [if_pos rfl, hop]
      exact h3
    · rw [if_neg c]
      exact h3
  · show ((M.th.set i t').map (fun t => t.op.length)).sum = _
    rw [sum_set_same M.th i t' (fun u hu => by rw [th_at hi] at hu; cases hu; rw [hop])]
    exact h.cl.cnt
  · intro k hk
    rw [t_setT_if hi]
    by_cases c : i = k
    · subst c
      rw [if_pos rfl]
      exact hok.of (Nat.le_refl _) (fun _ _ => rfl) (Nat.le_refl _) (fun _ _ => ⟨rfl, rfl⟩) (fun a b => by rw [hl]; exact hok.main0 a b) Iff.rfl
    · rw [if_neg c]
      have hk' : k < M.th.length := by omega
      exact (h.th k hk').of (Nat.le_refl _) (fun _ _ => rfl) (Nat.le_refl _) (fun _ _ => ⟨rfl, rfl⟩) (fun a b => by rw [hl]; exact (h.th k hk').main0 a b) (hrun k (Ne.symm c))
  · intro t ht v hv
    obtain ⟨k, hk, rfl⟩ := th_mem ht
    rw [t_setT_if hi] at hv
    by_cases c : i = k
    · rw [if_pos c] at hv
      exact okm v (hsk v hv)
    · rw [if_neg c] at hv
      exact okm v (h.va.sk _ (Mc.t_mem (by omega)) v hv)
section
variable {M : Mc} {run : Option Nat} {i sl : Nat}
/-- The top frame of a thread that has one. -/
theorem Alive.top (h : Alive M run sl) (hi : i < M.th.length) (h1 : 1 ≤ (M.t i).fr.length) : FrOk M (M.t i) (if run = some i then 0 else 2) ((M.t i).fr.length - 1) (M.t i).f := (h.th i hi).frs _ _ (Th.f_at h1)
theorem Alive.runs (h : Alive M (some i) sl) (hi : i < M.th.length) : (M.t i).st = 4 ∧ 1 ≤ (M.t i).fr.length ∧ (M.t i).fr.length ≤ 8 ∧ (M.t i).f.clo < M.cs.length ∧ (M.t i).f.base + (M.p (M.t i).f.clo).ns ≤ (M.t i).sk.length ∧ (M.t i).sk.length ≤ (M.t i).f.base + (M.p (M.t i).f.clo).ns + 128 ∧ (M.t i).f.pc ≤ (M.p (M.t i).f.clo).nc := by
  have hs := (h.th i hi).isrun.2 rfl
  have h1 := (h.th i hi).fr1 (by omega) (by omega)
  have ht := h.top hi h1
  have hm := ht.mid
  have hr := ht.room
  rw [endF_last (by omega)] at hm hr
  rw [if_neg (by omega), if_pos rfl] at hr
  exact ⟨hs, h1, (h.th i hi).fr8, ht.clo, hm, by omega, ht.pc⟩
/-- Frames whose operands may turn: the top one's alone. -/
theorem ThOk.skTopG {t : Th} (h : ThOk M run i t) (h1 : 1 ≤ t.fr.length) (sk' : List V) (st' : Nat) (run' : Option Nat) (hlo : t.f.base + (M.p t.f.clo).ns ≤ sk'.length) (hhi : sk'.length + (if run' = some i then 0 else 2) ≤ t.f.base + (M.p t.f.clo).ns + 128) (hs : st' = 4 ↔ run' = some i) (h5 : 1 ≤ st' ∧ st' ≤ 5) (hst : st' ≠ 1 ∧ st' ≠ 5) (hm : i = 0 → st' ≠ 2) : ThOk M run' i { t with sk := sk', st := st' } := by
  refine ⟨h.fn, hs, h5, fun _ c => absurd c hst.1, hm, fun c => by rcases c with c | c; exact absurd c hst.1; exact absurd c hst.2, fun _ _ => h1, h.fr8, ?_, h.opm, h.ops⟩
  intro j f hf
  obtain ⟨a1, a2, a3, a4, a5, a6, a7, a8⟩ := h.frs j f hf
  have hf : t.fr[j]? = some f := hf
  have hjl : j < t.fr.length := (List.getElem?_eq_some_iff.1 hf).1
  by_cases c : j + 1 < t.fr.length
  · obtain ⟨g, hg⟩ : ∃ g, t.fr[j + 1]? = some g := ⟨_, List.getElem?_eq_getElem c⟩
    have e1 : endF { t with sk := sk', st := st' } j = endF t j := by rw [endF_in (t := t) hg]; exact endF_in (t := { t with sk := sk', st := st' }) hg
    have e2 : topF { t with sk := sk', st := st' } j = topF t j := by rw [topF_in (t := t) hg]; exact topF_in (t := { t with sk := sk', st := st' }) hg
    rw [if_pos c] at a6
    refine ⟨a1, a2, a3, a4, by rw [e1]; exact a5, by rw [e1]; show _ + (if j + 1 < t.fr.length then 2 else _) ≤ _; rw [if_pos c]; exact a6, ⟨by rw [e1, e2]; exact a7.1, ?_⟩, by rw [e1, e2]; exact a8⟩
    rw [e2, topF_in hg]
    show g.base ≤ sk'.length
    by_cases d : j + 1 + 1 < t.fr.length
    · have hl := Th.f_at (t := t) h1
      obtain ⟨k, hk⟩ : ∃ k, t.fr.length - 1 = (j + 1) + (k + 1) := ⟨t.fr.length - 1 - (j + 1) - 1, by omega⟩
      rw [hk] at hl
      have h2 := h.mono hg hl
      have h3 := (h.frs _ _ hl).ret
      omega
    · have hl := Th.f_at (t := t) h1
      rw [show t.fr.length - 1 = j + 1 by omega, hg] at hl
      cases hl
      omega
  · have hl := Th.f_at (t := t) h1
    rw [show t.fr.length - 1 = j by omega, hf] at hl
    cases hl
    have e1 : endF { t with sk := sk', st := st' } j = sk'.length := endF_last (t := { t with sk := sk', st := st' }) (by show t.fr.length ≤ j + 1; omega)
    have e2 : topF { t with sk := sk', st := st' } j = sk'.length := topF_last (t := { t with sk := sk', st := st' }) (by show t.fr.length ≤ j + 1; omega)
    refine ⟨a1, a2, a3, a4, by rw [e1]; exact hlo, ?_, ⟨by rw [e1, e2]; exact Nat.le_refl _, by rw [e2]; exact Nat.le_refl _⟩, fun d => absurd d c⟩
    rw [e1]
    show sk'.length + (if j + 1 < t.fr.length then 2 else _) ≤ _
    rw [if_neg c]
    exact hhi
theorem ThOk.skTop {t : Th} (h : ThOk M run i t) (h1 : 1 ≤ t.fr.length) (sk' : List V) (hlo : t.f.base + (M.p t.f.clo).ns ≤ sk'.length) (hhi : sk'.length + (if run = some i then 0 else 2) ≤ t.f.base + (M.p t.f.clo).ns + 128) (hst : t.st ≠ 1 ∧ t.st ≠ 5) : ThOk M run i { t with sk := sk' } := h.skTopG h1 sk' t.st run hlo hhi h.isrun h.st hst h.main1
/-- The running thread's stack is laid anew above its top frame's slots. -/
theorem Alive.sk (h : Alive M (some i) sl) (hi : i < M.th.length) (sk' : List V) (hlo : (M.t i).f.base + (M.p (M.t i).f.clo).ns ≤ sk'.length) (hhi : sk'.length ≤ (M.t i).f.base + (M.p (M.t i).f.clo).ns + 128) (hv : ∀ v ∈ sk', okV M v) : Alive (M.setT i { M.t i with sk := sk' }) (some i) sl := by
  obtain ⟨r1, r2, r3, r4, r5, r6, r7⟩ := h.runs hi
  refine h.setT hi _ rfl ((h.th i hi).skTop r2 sk' hlo (by rw [if_pos rfl]; omega) ⟨by omega, by omega⟩) hv (fun _ _ => Iff.rfl)
theorem Alive.skV (h : Alive M run sl) (hi : i < M.th.length) : ∀ v ∈ (M.t i).sk, okV M v := h.va.sk _ (Mc.t_mem hi)
theorem Alive.at (h : Alive M run sl) (hi : i < M.th.length) {k : Nat} (hk : k < (M.t i).sk.length) : okV M ((M.t i).sk[k]?.getD nilV) := by
  rw [List.getElem?_eq_getElem hk]
  exact h.skV hi _ (List.getElem_mem hk)
theorem nil_okV (M : Mc) : okV M nilV := ⟨rfl, by decide⟩
theorem bool_okV (M : Mc) (b : Bool) : okV M (boolV b) := by cases b <;> exact ⟨rfl, by decide⟩
theorem str_okV (M : Mc) {s : List UInt8} (h : s.length ≤ 40) : okV M (str s) := by
  refine ⟨?_, show (0 : Nat) < 18446744073709551616 by decide⟩
  show (wfB (str s) && _) = true
  have : wfB (str s) = true := by
    unfold wfB str
    rw [if_pos rfl]
    simp [h]
  rw [this]
  rfl
theorem num_okV (M : Mc) {N : Nat} (h : ¬ 2047 * 2 ^ 52 < N % 2 ^ 63 ∨ N = nanBits) (hN : N < 18446744073709551616) : okV M (numV N) := by
  refine ⟨?_, hN⟩
  show (wfB (numV N) && _) = true
  have : wfB (numV N) = true := rfl
  rw [this]
  show decide _ = true
  rw [decide_eq_true_eq]
  exact h
theorem Alive.push (h : Alive M (some i) sl) (hi : i < M.th.length) (vs : List V) (hhi : (M.t i).sk.length + vs.length ≤ (M.t i).f.base + (M.p (M.t i).f.clo).ns + 128) (hv : ∀ v ∈ vs, okV M v) : Alive (pushP M i vs) (some i) sl := by
  obtain ⟨r1, r2, r3, r4, r5, r6, r7⟩ := h.runs hi
  refine h.sk hi _ (by rw [List.length_append]; omega) (by rw [List.length_append]; omega) ?_
  intro v hv'
  rcases List.mem_append.1 hv' with c | c
  · exact h.skV hi v c
  · exact hv v c
theorem Alive.cut (h : Alive M (some i) sl) (hi : i < M.th.length) (n : Nat) (hn : n ≤ (M.t i).sk.length) (hlo : (M.t i).f.base + (M.p (M.t i).f.clo).ns ≤ n) : Alive (cutP M i n) (some i) sl := by
  obtain ⟨r1, r2, r3, r4, r5, r6, r7⟩ := h.runs hi
  refine h.sk hi _ (by rw [List.length_take]; omega) (by rw [List.length_take]; omega) ?_
  intro v hv
  exact h.skV hi v (List.mem_of_mem_take hv)
theorem Alive.drop (h : Alive M (some i) sl) (hi : i < M.th.length) (hlo : (M.t i).f.base + (M.p (M.t i).f.clo).ns + 1 ≤ (M.t i).sk.length) : Alive (dropP M i) (some i) sl := h.cut hi ((M.t i).sk.length - 1) (by omega) (by omega)
/-- Where the same place of the same thread is looked at behind a push or a cut. -/
theorem push_t (hi : i < M.th.length) (vs : List V) : (pushP M i vs).t i = { M.t i with sk := (M.t i).sk ++ vs } := t_setT hi _
theorem cut_t (hi : i < M.th.length) (n : Nat) : (cutP M i n).t i = { M.t i with sk := (M.t i).sk.take n } := t_setT hi _
theorem drop_t (hi : i < M.th.length) : (dropP M i).t i = { M.t i with sk := (M.t i).sk.take ((M.t i).sk.length - 1) } := t_setT hi _
theorem Alive.topV (h : Alive M run sl) (hi : i < M.th.length) (h1 : 1 ≤ (M.t i).sk.length) : okV M (topP M i) := h.at hi (by omega)
end
end Go.Proofs.Qxb6500293aGreatRR
