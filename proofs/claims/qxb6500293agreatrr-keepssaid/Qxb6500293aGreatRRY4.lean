/-
  THE MACHINE, PLAIN: the invariant is kept: pc, slots, tables, closing, capturing, closures, spawning.
-/
import Derived.Test.Qxb6500293aGreatRRY2
namespace Go.Proofs.Qxb6500293aGreatRR
open Ieee (double)
set_option linter.unusedVariables false

theorem fr_setF {t : Th} (h1 : 1 ≤ t.fr.length) (g : Fr) (j : Nat) : (t.setF g).fr[j]? = if j = t.fr.length - 1 then some g else t.fr[j]? := by
  unfold Th.setF
  rw [List.getElem?_set]
  by_cases c : t.fr.length - 1 = j
  · rw [if_pos c, if_pos c.symm, if_pos (by omega)]
  · rw [if_neg c, if_neg (fun e => c e.symm)]
section
variable {M : Mc} {run : Option Nat} {i sl : Nat}
theorem ThOk.setPc {t : Th} (h : ThOk M run i t) (h1 : 1 ≤ t.fr.length) (x : Nat) (hx : x ≤ (M.p t.f.clo).nc) : ThOk M run i (t.setF { t.f with pc := x }) := by
  obtain ⟨t', ht'⟩ : ∃ t', t' = t.setF { t.f with pc := x } := ⟨_, rfl⟩
  have hl : t'.fr.length = t.fr.length := by rw [ht']; unfold Th.setF; exact List.length_set
  have hf := Th.f_at h1
  have hg := fun j => fr_setF h1 { t.f with pc := x } j
  rw [← ht'] at hg ⊢
  have hsk : t'.sk = t.sk := by rw [ht']; rfl
  have hop : t'.op = t.op := by rw [ht']; rfl
  have hst : t'.st = t.st := by rw [ht']; rfl
  have hfn : t'.fn = t.fn := by rw [ht']; rfl
  have key : ∀ (j : Nat) (g : Fr), t'.fr[j]? = some g → ∃ f, t.fr[j]? = some f ∧ g.clo = f.clo ∧ g.base = f.base ∧ g.ret = f.ret ∧ g.prot = f.prot ∧ g.pc ≤ (M.p g.clo).nc := by
    intro j g hj
    rw [hg] at hj
    by_cases c : j = t.fr.length - 1
    · rw [if_pos c] at hj
      cases hj
      exact ⟨t.f, by rw [c]; exact hf, rfl, rfl, rfl, rfl, hx⟩
    · rw [if_neg c] at hj
      exact ⟨g, hj, rfl, rfl, rfl, rfl, (h.frs j g hj).pc⟩
  have key2 : ∀ (j : Nat) (f : Fr), t.fr[j]? = some f → ∃ g, t'.fr[j]? = some g ∧ g.clo = f.clo ∧ g.base = f.base ∧ g.ret = f.ret := by
    intro j f hj
    rw [hg]
    by_cases c : j = t.fr.length - 1
    · rw [if_pos c]
      rw [c, hf] at hj
      cases hj
      exact ⟨_, rfl, rfl, rfl, rfl⟩
    · rw [if_neg c]
      exact ⟨f, hj, rfl, rfl, rfl⟩
  have eE : ∀ j, endF t' j = endF t j ∧ topF t' j = topF t j := by
    intro j
    by_cases c : j + 1 < t.fr.length
    · obtain ⟨f, hf'⟩ : ∃ f, t.fr[j + 1]? = some f := ⟨_, List.getElem?_eq_getElem c⟩
      obtain ⟨g, g1, g2, g3, g4⟩ := key2 _ _ hf'
      rw [endF_in g1, endF_in hf', topF_in g1, topF_in hf', g3, g4]
      exact ⟨rfl, rfl⟩
    · rw [endF_last (by omega), endF_last (by omega), topF_last (by omega), topF_last (by omega), hsk]
      exact ⟨rfl, rfl⟩
  refine ⟨by rw [hfn]; exact h.fn, by rw [hst]; exact h.isrun, by rw [hst]; exact h.st, by rw [hst]; exact h.main0, by rw [hst]; exact h.main1, ?_, fun _ _ => by omega, by rw [hl]; exact h.fr8, ?_, ?_, by rw [hop]; exact h.ops⟩
  · rw [hst]
    intro c
    have := (h.dead c).2.1
    rw [this] at h1
    simp at h1
  · intro j g hj
    obtain ⟨f, h2, e1, e2, e3, e4, e5⟩ := key j g hj
    obtain ⟨a1, a2, a3, a4, a5, a6, a7, a8⟩ := h.frs j f h2
    obtain ⟨e6, e7⟩ := eE j
    refine ⟨by rw [e1]; exact a1, e5, by rw [e3, e2]; exact a3, by rw [e2, e3, e4]; exact a4, by rw [e2, e1, e6]; exact a5, by rw [e2, e1, e6, hl]; exact a6, by rw [e6, e7, hsk]; exact a7, by rw [e6, e7, e2, e1, hl]; exact a8⟩
  · rw [hop]
    intro c hc
    obtain ⟨b1, b2, j, f, b3, b4, b5⟩ := h.opm c hc
    obtain ⟨g, g1, g2, g3, g4⟩ := key2 _ _ b3
    exact ⟨b1, b2, j, g, g1, by rw [g3]; exact b4, by rw [g3, g2]; exact b5⟩
theorem Alive.setPc (h : Alive M (some i) sl) (hi : i < M.th.length) (x : Nat) (hx : x ≤ (M.p (M.t i).f.clo).nc) : Alive (setPc M i x) (some i) sl := by
  obtain ⟨r1, r2, r3, r4, r5, r6, r7⟩ := h.runs hi
  exact h.setT hi _ rfl ((h.th i hi).setPc r2 x hx) (h.skV hi) (fun _ _ => Iff.rfl)
/-- What is stored into a slot. -/
theorem Alive.put (h : Alive M run sl) {k : Nat} (hk : k < M.th.length) {j : Nat} (hst : (M.t k).st ≠ 1 ∧ (M.t k).st ≠ 5) {v : V} (hv : okV M v) : Alive (M.setT k { M.t k with sk := (M.t k).sk.set j v }) run sl := by
  have h1 := (h.th k hk).fr1 hst.1 hst.2
  have ht := h.top hk h1
  have hm := ht.mid
  have hr := ht.room
  rw [endF_last (by omega)] at hm hr
  rw [if_neg (by omega)] at hr
  refine h.setT hk _ rfl ((h.th k hk).skTop h1 _ (by rw [List.length_set]; exact hm) (by rw [List.length_set]; exact hr) hst) ?_ (fun _ _ => Iff.rfl)
  intro u hu
  rcases List.mem_or_eq_of_mem_set hu with c | c
  · exact h.skV hk u c
  · rw [c]; exact hv
theorem Alive.slot (h : Alive M (some i) sl) (hi : i < M.th.length) (x : Nat) {v : V} (hv : okV M v) : Alive (setSlot M i x v) (some i) sl := by
  obtain ⟨r1, r2, r3, r4, r5, r6, r7⟩ := h.runs hi
  exact h.put hi ⟨by omega, by omega⟩ hv
/-- Fuel, output, tables. -/
theorem Alive.fuel (h : Alive M run sl) {n : Nat} (hn : n ≤ M.fuel) : Alive { M with fuel := n } run sl :=
  ⟨h.en, ⟨h.st.pr1, h.st.pr13, h.st.tile, h.st.each, h.st.win, h.st.lds, h.st.lks, h.st.lco, h.st.ds, h.st.co, h.st.ks⟩, ⟨h.cl.cs1, h.cl.cs24, h.cl.tile, h.cl.each, h.cl.ux, h.cl.lux, h.cl.lce, h.cl.ceo, h.cl.cec, h.cl.cnt⟩, h.th1, h.th5,
    fun k hk => (h.th k hk).of (Nat.le_refl _) (fun _ _ => rfl) (Nat.le_refl _) (fun _ _ => ⟨rfl, rfl⟩) (h.th k hk).main0 Iff.rfl, ⟨h.va.ks, h.va.ce, h.va.sk, h.va.tb⟩, ⟨Nat.le_trans hn h.ou.fuel, h.ou.out, h.ou.line⟩, h.tb, h.tb12⟩
theorem Alive.outp (h : Alive M run sl) (l : List UInt8) (hl : M.out.length + l.length + 1 ≤ 200) : Alive { M with out := M.out ++ l ++ [10] } run sl :=
  ⟨h.en, ⟨h.st.pr1, h.st.pr13, h.st.tile, h.st.each, h.st.win, h.st.lds, h.st.lks, h.st.lco, h.st.ds, h.st.co, h.st.ks⟩, ⟨h.cl.cs1, h.cl.cs24, h.cl.tile, h.cl.each, h.cl.ux, h.cl.lux, h.cl.lce, h.cl.ceo, h.cl.cec, h.cl.cnt⟩, h.th1, h.th5,
    fun k hk => (h.th k hk).of (Nat.le_refl _) (fun _ _ => rfl) (Nat.le_refl _) (fun _ _ => ⟨rfl, rfl⟩) (h.th k hk).main0 Iff.rfl, ⟨h.va.ks, h.va.ce, h.va.sk, h.va.tb⟩, ⟨h.ou.fuel, by show (M.out ++ l ++ [10]).length ≤ 200; simp; omega, .inr ⟨_, rfl⟩⟩, h.tb, h.tb12⟩
theorem Alive.tabs (h : Alive M run sl) (tb : List Tbl) (h1 : M.tb.length ≤ tb.length) (h12 : tb.length ≤ 12) (hv : ∀ t ∈ tb, ∀ e ∈ t, okV M e.1 ∧ okV M e.2) : Alive { M with tb := tb } run sl := by
  have okm : ∀ v, okV M v → okV { M with tb := tb } v := fun v hv => hv.mono h1 (Nat.le_refl _) (Nat.le_refl _)
  exact ⟨h.en, ⟨h.st.pr1, h.st.pr13, h.st.tile, h.st.each, h.st.win, h.st.lds, h.st.lks, h.st.lco, h.st.ds, h.st.co, h.st.ks⟩, ⟨h.cl.cs1, h.cl.cs24, h.cl.tile, h.cl.each, h.cl.ux, h.cl.lux, h.cl.lce, h.cl.ceo, h.cl.cec, h.cl.cnt⟩, h.th1, h.th5,
    fun k hk => (h.th k hk).of (Nat.le_refl _) (fun _ _ => rfl) (Nat.le_refl _) (fun _ _ => ⟨rfl, rfl⟩) (h.th k hk).main0 Iff.rfl, ⟨fun v hv => okm v (h.va.ks v hv), fun c hc => okm _ (h.va.ce c hc), fun t ht v hv => okm v (h.va.sk t ht v hv), fun t ht e he => ⟨okm _ (hv t ht e he).1, okm _ (hv t ht e he).2⟩⟩, ⟨h.ou.fuel, h.ou.out, h.ou.line⟩, Nat.le_trans h.tb h1, h12⟩
end
/-! ### closing -/
theorem sum_set (l : List Th) (i : Nat) (t u : Th) (hu : l[i]? = some u) : ((l.set i t).map (fun t => t.op.length)).sum + u.op.length = (l.map (fun t => t.op.length)).sum + t.op.length := by
  induction l generalizing i with
  | nil => simp at hu
  | cons a l ih =>
    cases i with
    | zero =>
      simp at hu
      subst hu
      simp only [List.set_cons_zero, List.map_cons, List.sum_cons]
      omega
    | succ i =>
      have := ih i (by simpa using hu)
      simp only [List.set_cons_succ, List.map_cons, List.sum_cons]
      omega
theorem count_set (l : List Ce) (x : Nat) (c u : Ce) (hu : l[x]? = some u) : (l.set x c).countP (fun c => decide (0 ≤ c.th)) + (if 0 ≤ u.th then 1 else 0) = l.countP (fun c => decide (0 ≤ c.th)) + (if 0 ≤ c.th then 1 else 0) := by
  induction l generalizing x with
  | nil => simp at hu
  | cons a l ih =>
    cases x with
    | zero =>
      simp at hu
      subst hu
      rw [List.set_cons_zero, List.countP_cons, List.countP_cons]
      by_cases d1 : 0 ≤ a.th <;> by_cases d2 : 0 ≤ c.th <;> simp [d1, d2]
    | succ x =>
      have := ih x (by simpa using hu)
      rw [List.set_cons_succ, List.countP_cons, List.countP_cons]
      omega
theorem x_set {M : Mc} {c d : Nat} {e : Ce} (hc : c < M.ce.length) : ((M.ce.set c e)[d]?.getD dX) = if c = d then e else M.x d := by
  rw [List.getElem?_set]
  by_cases h : c = d
  · subst h
    rw [if_pos rfl, if_pos rfl, if_pos hc]
    rfl
  · rw [if_neg h, if_neg h]
    rfl
section
variable {M : Mc} {run : Option Nat} {i sl : Nat}
theorem Alive.closeOne (h : Alive M run sl) (hi : i < M.th.length) {c : Nat} {r : List Nat} (hop : (M.t i).op = r ++ [c]) : Alive (close1 M i c r) run sl := by
  have hti := h.th i hi
  obtain ⟨c1, c2, j0, f0, c3, c4, c5⟩ := hti.opm c (by rw [hop]; simp)
  have hb := hti.base_le c3
  have hat : (M.x c).at' < (M.t i).sk.length := by omega
  have hvc := h.at hi hat
  have hce : ∀ d, (close1 M i c r).x d = if c = d then ⟨-1, 0, (M.t i).sk[(M.x c).at']?.getD nilV⟩ else M.x d := fun d => x_set c1
  have hlen : (close1 M i c r).ce.length = M.ce.length := List.length_set
  have hth : (close1 M i c r).th.length = M.th.length := th_setT M i _
  have ht : ∀ k, (close1 M i c r).t k = if i = k then { M.t i with op := r } else M.t k := fun k => t_setT_if hi _
  have hnd : ∀ d ∈ r, c ≠ d := by
    intro d hd e
    subst e
    have := hti.ops
    rw [hop, List.pairwise_append] at this
    have := this.2.2 c hd c (by simp)
    omega
  have okm : ∀ v, okV M v → okV (close1 M i c r) v := fun v hv => hv.mono (Nat.le_refl _) (Nat.le_refl _) (by omega)
  refine ⟨h.en, ⟨h.st.pr1, h.st.pr13, h.st.tile, h.st.each, h.st.win, h.st.lds, h.st.lks, h.st.lco, h.st.ds, h.st.co, h.st.ks⟩, ⟨h.cl.cs1, h.cl.cs24, h.cl.tile, h.cl.each, fun u hu => by rw [hlen]; exact h.cl.ux u hu, h.cl.lux, by rw [hlen]; exact h.cl.lce, ?_, ?_, ?_⟩, by omega, by have := h.th5; omega, ?_, ⟨fun v hv => okm v (h.va.ks v hv), ?_, ?_, fun t ht e he => ⟨okm _ (h.va.tb t ht e he).1, okm _ (h.va.tb t ht e he).2⟩⟩, ⟨h.ou.fuel, h.ou.out, h.ou.line⟩, h.tb, h.tb12⟩
  · intro x hx hx0
    rw [hce] at hx0 ⊢
    by_cases e : c = x
    · rw [if_pos e] at hx0
      exact absurd hx0 (show ¬ (0 : Int) ≤ -1 by decide)
    · rw [if_neg e] at hx0 ⊢
      obtain ⟨k, h1, h2, h3⟩ := h.cl.ceo x (by omega) hx0
      refine ⟨k, h1, by omega, ?_⟩
      rw [ht]
      by_cases d : i = k
      · subst d
        rw [if_pos rfl]
        rw [hop] at h3
        rcases List.mem_append.1 h3 with g | g
        · exact g
        · rw [List.mem_singleton] at g
          exact absurd g.symm e
      · rw [if_neg d]
        exact h3
  · intro x hx hx0
    rw [hce] at hx0 ⊢
    by_cases e : c = x
    · rw [if_pos e]
      exact ⟨rfl, rfl⟩
    · rw [if_neg e] at hx0 ⊢
      exact h.cl.cec x (by omega) hx0
  · have s1 := sum_set M.th i { M.t i with op := r } (M.t i) (th_at hi)
    have s2 := count_set M.ce c ⟨-1, 0, (M.t i).sk[(M.x c).at']?.getD nilV⟩ (M.x c) (at_some c1)
    rw [if_pos (by rw [c2]; omega), if_neg (show ¬ (0 : Int) ≤ -1 by decide)] at s2
    have s3 := h.cl.cnt
    rw [hop, List.length_append, List.length_singleton] at s1
    show ((M.th.set i { M.t i with op := r }).map (fun t => t.op.length)).sum = (M.ce.set c _).countP _
    have s4 : ({ M.t i with op := r } : Th).op.length = r.length := rfl
    rw [s4] at s1
    omega
  · intro k hk
    rw [ht]
    by_cases d : i = k
    · subst d
      rw [if_pos rfl]
      have hsub : ThOk M run i { M.t i with op := r } := by
        refine ⟨hti.fn, hti.isrun, hti.st, hti.main0, hti.main1, fun q => ?_, hti.fr1, hti.fr8, fun j f hf => ⟨(hti.frs j f hf).clo, (hti.frs j f hf).pc, (hti.frs j f hf).ret, (hti.frs j f hf).zero, (hti.frs j f hf).mid, (hti.frs j f hf).room, (hti.frs j f hf).top, (hti.frs j f hf).gap⟩, fun q hq => hti.opm q (by rw [hop]; exact List.mem_append_left _ hq), ?_⟩
        · have := (hti.dead q).2.2
          rw [hop] at this
          simp at this
        · have := hti.ops
          rw [hop, List.pairwise_append] at this
          exact this.1
      refine hsub.of (Nat.le_refl _) (fun _ _ => rfl) (by omega) ?_ (fun a b => by rw [hth]; exact hti.main0 a b) Iff.rfl
      intro q hq
      rw [hce, if_neg (hnd q hq)]
      exact ⟨rfl, rfl⟩
    · rw [if_neg d]
      have hk' : k < M.th.length := by omega
      refine (h.th k hk').of (Nat.le_refl _) (fun _ _ => rfl) (by omega) ?_ (fun a b => by rw [hth]; exact (h.th k hk').main0 a b) Iff.rfl
      intro q hq
      have hq2 := ((h.th k hk').opm q hq).2.1
      rw [hce, if_neg (by rintro rfl; rw [c2] at hq2; omega)]
      exact ⟨rfl, rfl⟩
  · intro e he
    rcases List.mem_or_eq_of_mem_set he with q | q
    · exact okm _ (h.va.ce e q)
    · rw [q]
      exact okm _ hvc
  · intro t htt v hv
    obtain ⟨k, hk, rfl⟩ := th_mem htt
    rw [ht] at hv
    by_cases d : i = k
    · rw [if_pos d] at hv
      exact okm v (h.skV hi v hv)
    · rw [if_neg d] at hv
      exact okm v (h.skV (by omega) v hv)
theorem Alive.closeN (n : Nat) : ∀ {M : Mc}, Alive M run sl → i < M.th.length → (M.t i).op.length = n → ∀ at', Alive (closeP M i at') run sl ∧ (∀ c ∈ ((closeP M i at').t i).op, ((closeP M i at').x c).at' < at') := by
  induction n with
  | zero =>
    intro M h hi hn at'
    have e : closeP M i at' = M := closeP_stop (fun r c hc => by rw [hc] at hn; simp at hn)
    rw [e]
    refine ⟨h, fun c hc => ?_⟩
    rw [List.length_eq_zero_iff.1 hn] at hc
    simp at hc
  | succ n ih =>
    intro M h hi hn at'
    obtain ⟨r, c, hrc⟩ : ∃ r c, (M.t i).op = r ++ [c] := by
      rcases List.eq_nil_or_concat (M.t i).op with h0 | ⟨r, c, h1⟩
      · rw [h0] at hn; simp at hn
      · exact ⟨r, c, by rw [h1, List.concat_eq_append]⟩
    by_cases hlt : (M.x c).at' < at'
    · have e : closeP M i at' = M := closeP_stop (fun r' c' hc => by rw [hrc] at hc; obtain ⟨_, h2⟩ := List.append_inj' hc rfl; cases h2; exact hlt)
      rw [e]
      refine ⟨h, fun d hd => ?_⟩
      have hs := (h.th i hi).ops
      rw [hrc] at hs hd
      rw [List.pairwise_append] at hs
      rcases List.mem_append.1 hd with g | g
      · have := hs.2.2 d g c (by simp)
        omega
      · rw [List.mem_singleton] at g
        rw [g]
        exact hlt
    · rw [closeP_one hi hrc (by omega)]
      have ht : (close1 M i c r).t i = { M.t i with op := r } := t_setT (M := M) hi _
      refine ih (h.closeOne hi hrc) (by show i < (M.setT i _).th.length; rw [th_setT]; exact hi) ?_ at'
      rw [ht]
      rw [hrc] at hn
      simp at hn
      exact hn
theorem Alive.close (h : Alive M run sl) (hi : i < M.th.length) (at' : Nat) : Alive (closeP M i at') run sl ∧ (∀ c ∈ ((closeP M i at').t i).op, ((closeP M i at').x c).at' < at') := Alive.closeN _ h hi rfl at'
end
end Go.Proofs.Qxb6500293aGreatRR
