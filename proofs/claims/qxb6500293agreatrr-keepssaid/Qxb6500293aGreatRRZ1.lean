/-
  THE MACHINE, PLAIN: capture and closure keep the invariant.
-/
import Derived.Test.Qxb6500293aGreatRRY6
namespace Go.Proofs.Qxb6500293aGreatRR
open Ieee (double)
set_option linter.unusedVariables false
set_option linter.unusedSimpArgs false

theorem capF_le (ce : List Ce) (at' : Nat) : ∀ l : List Nat, capF ce at' l ≤ l.length
  | [] => Nat.le_refl _
  | c :: r => by
    unfold capF
    split
    · have := capF_le ce at' r
      simp
      omega
    · simp
theorem capF_spec (ce : List Ce) (at' : Nat) : ∀ l : List Nat, (∀ c ∈ l.reverse.drop (capF ce at' l), at' < (ce[c]?.getD dX).at') ∧ (0 < capF ce at' l → ∃ c, l.reverse[capF ce at' l - 1]? = some c ∧ (ce[c]?.getD dX).at' ≤ at')
  | [] => ⟨by simp [capF], by simp [capF]⟩
  | c :: r => by
    unfold capF
    by_cases h : at' < (ce[c]?.getD dX).at'
    · rw [if_pos h]
      obtain ⟨h1, h2⟩ := capF_spec ce at' r
      have hle := capF_le ce at' r
      refine ⟨?_, fun h0 => ?_⟩
      · intro d hd
        rw [List.reverse_cons, List.drop_append_of_le_length (by simpa using hle)] at hd
        rcases List.mem_append.1 hd with g | g
        · exact h1 d g
        · rw [List.mem_singleton] at g
          rw [g]; exact h
      · obtain ⟨d, h3, h4⟩ := h2 h0
        refine ⟨d, ?_, h4⟩
        rw [List.reverse_cons, List.getElem?_append_left (by simp; omega)]
        exact h3
    · rw [if_neg h]
      refine ⟨?_, fun _ => ⟨c, ?_, by omega⟩⟩
      · intro d hd
        rw [List.drop_eq_nil_of_le (by simp)] at hd
        simp at hd
      · simp
section
variable {M : Mc} {i sl : Nat}
theorem x_app (M : Mc) (e : Ce) {d : Nat} : ((M.ce ++ [e])[d]?.getD dX) = if d = M.ce.length then e else M.x d := by
  unfold Mc.x
  by_cases h : d < M.ce.length
  · rw [List.getElem?_append_left h, if_neg (by omega)]
  · rw [List.getElem?_append_right (by omega)]
    by_cases e2 : d = M.ce.length
    · subst e2
      simp
    · rw [if_neg e2, List.getElem?_eq_none (by simp; omega), List.getElem?_eq_none (by omega)]
theorem Alive.capN (h : Alive M (some i) sl) (hi : i < M.th.length) {at' : Nat} (hin : InSlots M (M.t i) at') (hne : 0 < capI M i at' → (M.x ((M.t i).op[capI M i at' - 1]?.getD 0)).at' ≠ at') : Alive (capN M i at') (some i) (sl + 1) := by
  have hti := h.th i hi
  have hr := h.runs hi
  obtain ⟨s1, s2⟩ := capF_spec M.ce at' (M.t i).op.reverse
  rw [List.reverse_reverse] at s1 s2
  have s0 := capF_le M.ce at' (M.t i).op.reverse
  rw [List.length_reverse] at s0
  change capI M i at' ≤ _ at s0
  change ∀ c ∈ (M.t i).op.drop (capI M i at'), at' < (M.x c).at' at s1
  change 0 < capI M i at' → ∃ c, (M.t i).op[capI M i at' - 1]? = some c ∧ (M.x c).at' ≤ at' at s2
  generalize hn : capI M i at' = n at *
  have hlo : ∀ c ∈ (M.t i).op.take n, (M.x c).at' < at' := by
    intro c hc
    obtain ⟨k, hk, rfl⟩ := List.getElem_of_mem hc
    rw [List.length_take] at hk
    obtain ⟨d, h3, h4⟩ := s2 (by omega)
    have h5 := hne (by omega)
    rw [h3] at h5
    have h5 : (M.x d).at' ≠ at' := h5
    have hd : (M.t i).op[n - 1]'(by omega) = d := (List.getElem?_eq_some_iff.1 h3).2
    rw [List.getElem_take]
    by_cases e : k = n - 1
    · subst e
      rw [hd]
      omega
    · have := List.pairwise_iff_getElem.1 hti.ops k (n - 1) (by omega) (by omega) (by omega)
      rw [hd] at this
      omega
  have hx : ∀ d, (Go.Proofs.Qxb6500293aGreatRR.capN M i at').x d = if d = M.ce.length then ⟨(i : Int), at', nilV⟩ else M.x d := fun d => x_app M _
  have hle : (Go.Proofs.Qxb6500293aGreatRR.capN M i at').ce.length = M.ce.length + 1 := by
    show (M.ce ++ [_]).length = _
    simp
  have hth : (Go.Proofs.Qxb6500293aGreatRR.capN M i at').th.length = M.th.length := th_setT M i _
  have ht : ∀ k, (Go.Proofs.Qxb6500293aGreatRR.capN M i at').t k = if i = k then { M.t i with op := (M.t i).op.take n ++ [M.ce.length] ++ (M.t i).op.drop n } else M.t k := fun k => by
    rw [← hn]
    exact t_setT_if hi _
  have okm : ∀ v, okV M v → okV (Go.Proofs.Qxb6500293aGreatRR.capN M i at') v := fun v hv => hv.mono (Nat.le_refl _) (Nat.le_refl _) (by omega)
  have hold : ∀ k, k < M.th.length → ∀ c ∈ (M.t k).op, c < M.ce.length := fun k hk c hc => ((h.th k hk).opm c hc).1
  refine ⟨h.en, ⟨h.st.pr1, h.st.pr13, h.st.tile, h.st.each, h.st.win, h.st.lds, h.st.lks, h.st.lco, h.st.ds, h.st.co, h.st.ks⟩, ⟨h.cl.cs1, h.cl.cs24, h.cl.tile, h.cl.each, fun u hu => by rw [hle]; have := h.cl.ux u hu; omega, h.cl.lux, by rw [hle]; have := h.cl.lce; show _ ≤ M.ux.length + (sl + 1); omega, ?_, ?_, ?_⟩, by omega, by have := h.th5; omega, ?_, ⟨fun v hv => okm v (h.va.ks v hv), ?_, ?_, fun t ht e he => ⟨okm _ (h.va.tb t ht e he).1, okm _ (h.va.tb t ht e he).2⟩⟩, ⟨h.ou.fuel, h.ou.out, h.ou.line⟩, h.tb, h.tb12⟩
  · intro x hx1 hx0
    rw [hx] at hx0 ⊢
    by_cases e : x = M.ce.length
    · rw [if_pos e]
      refine ⟨i, rfl, by omega, ?_⟩
      rw [ht, if_pos rfl]
      rw [e]
      simp
    · rw [if_neg e] at hx0 ⊢
      obtain ⟨k, h1, h2, h3⟩ := h.cl.ceo x (by omega) hx0
      refine ⟨k, h1, by omega, ?_⟩
      rw [ht]
      by_cases d : i = k
      · subst d
        rw [if_pos rfl]
        rw [← List.take_append_drop n (M.t i).op] at h3
        rcases List.mem_append.1 h3 with g | g
        · exact List.mem_append_left _ (List.mem_append_left _ g)
        · exact List.mem_append_right _ g
      · rw [if_neg d]
        exact h3
  · intro x hx1 hx0
    rw [hx] at hx0 ⊢
    by_cases e : x = M.ce.length
    · rw [if_pos e] at hx0
      exact absurd (Int.natCast_nonneg i) hx0
    · rw [if_neg e] at hx0 ⊢
      exact h.cl.cec x (by omega) hx0
  · have q1 := sum_set M.th i { M.t i with op := (M.t i).op.take n ++ [M.ce.length] ++ (M.t i).op.drop n } (M.t i) (th_at hi)
    have q3 := h.cl.cnt
    have q4 : ({ M.t i with op := (M.t i).op.take n ++ [M.ce.length] ++ (M.t i).op.drop n } : Th).op.length = (M.t i).op.length + 1 := by
      show ((M.t i).op.take n ++ [M.ce.length] ++ (M.t i).op.drop n).length = _
      simp
      omega
    rw [q4] at q1
    have q5 : (Go.Proofs.Qxb6500293aGreatRR.capN M i at').th = M.th.set i { M.t i with op := (M.t i).op.take n ++ [M.ce.length] ++ (M.t i).op.drop n } := by
      rw [← hn]
      rfl
    rw [q5]
    show _ = (M.ce ++ [(⟨(i : Int), at', nilV⟩ : Ce)]).countP _
    rw [List.countP_append]
    have q6 : List.countP (fun c : Ce => decide (0 ≤ c.th)) [(⟨(i : Int), at', nilV⟩ : Ce)] = 1 := by
      rw [List.countP_singleton, if_pos (by simp)]
    rw [q6]
    omega
  · intro k hk
    rw [ht]
    by_cases d : i = k
    · subst d
      rw [if_pos rfl]
      have h1 := hti.of (M' := Go.Proofs.Qxb6500293aGreatRR.capN M i at') (run' := some i) (Nat.le_refl _) (fun _ _ => rfl) (by omega) (fun c hc => by rw [hx, if_neg (by have := hold i hi c hc; omega)]; exact ⟨rfl, rfl⟩) (fun a b => by rw [hth]; exact hti.main0 a b) Iff.rfl
      refine ⟨h1.fn, h1.isrun, h1.st, h1.main0, h1.main1, fun q => ?_, h1.fr1, h1.fr8, fun j f hf => ⟨(h1.frs j f hf).clo, (h1.frs j f hf).pc, (h1.frs j f hf).ret, (h1.frs j f hf).zero, (h1.frs j f hf).mid, (h1.frs j f hf).room, (h1.frs j f hf).top, (h1.frs j f hf).gap⟩, ?_, ?_⟩
      · exfalso
        rcases q with q | q
        · have : (M.t i).st = 1 := q
          omega
        · have : (M.t i).st = 5 := q
          omega
      · intro c hc
        rcases List.mem_append.1 hc with g | g
        · rcases List.mem_append.1 g with g | g
          · exact h1.opm c (List.mem_of_mem_take g)
          · rw [List.mem_singleton] at g
            subst g
            rw [hx, if_pos rfl]
            exact ⟨by omega, rfl, hin⟩
        · exact h1.opm c (List.mem_of_mem_drop g)
      · have e1 : ∀ c ∈ (M.t i).op, ((Go.Proofs.Qxb6500293aGreatRR.capN M i at').x c).at' = (M.x c).at' := fun c hc => by rw [hx, if_neg (by have := hold i hi c hc; omega)]
        have e2 : ((Go.Proofs.Qxb6500293aGreatRR.capN M i at').x M.ce.length).at' = at' := by rw [hx, if_pos rfl]
        have hsplit := hti.ops
        rw [← List.take_append_drop n (M.t i).op, List.pairwise_append] at hsplit
        obtain ⟨p1, p2, p3⟩ := hsplit
        show List.Pairwise _ ((M.t i).op.take n ++ [M.ce.length] ++ (M.t i).op.drop n)
        rw [List.pairwise_append, List.pairwise_append]
        refine ⟨⟨?_, List.pairwise_singleton _ _, ?_⟩, ?_, ?_⟩
        · refine p1.imp_of_mem ?_
          intro a b ha hb hab
          rw [e1 a (List.mem_of_mem_take ha), e1 b (List.mem_of_mem_take hb)]
          exact hab
        · intro a ha b hb
          rw [List.mem_singleton] at hb
          subst hb
          rw [e2, e1 a (List.mem_of_mem_take ha)]
          exact hlo a ha
        · refine p2.imp_of_mem ?_
          intro a b ha hb hab
          rw [e1 a (List.mem_of_mem_drop ha), e1 b (List.mem_of_mem_drop hb)]
          exact hab
        · intro a ha b hb
          rw [e1 b (List.mem_of_mem_drop hb)]
          rcases List.mem_append.1 ha with g | g
          · rw [e1 a (List.mem_of_mem_take g)]
            exact p3 a g b hb
          · rw [List.mem_singleton] at g
            subst g
            rw [e2]
            exact s1 b hb
    · rw [if_neg d]
      have hk' : k < M.th.length := by omega
      refine (h.th k hk').of (Nat.le_refl _) (fun _ _ => rfl) (by omega) ?_ (fun a b => by rw [hth]; exact (h.th k hk').main0 a b) Iff.rfl
      intro q hq
      rw [hx, if_neg (by have := hold k hk' q hq; omega)]
      exact ⟨rfl, rfl⟩
  · intro e he
    rcases List.mem_append.1 he with q | q
    · exact okm _ (h.va.ce e q)
    · rw [List.mem_singleton] at q
      rw [q]
      exact nil_okV _
  · intro t htt v hv
    obtain ⟨k, hk, rfl⟩ := th_mem htt
    rw [ht] at hv
    by_cases d : i = k
    · rw [if_pos d] at hv
      exact okm v (h.skV hi v hv)
    · rw [if_neg d] at hv
      exact okm v (h.skV (by omega) v hv)
theorem Alive.slack (h : Alive M (some i) sl) : Alive M (some i) (sl + 1) :=
  ⟨h.en, h.st, ⟨h.cl.cs1, h.cl.cs24, h.cl.tile, h.cl.each, h.cl.ux, h.cl.lux, by have := h.cl.lce; omega, h.cl.ceo, h.cl.cec, h.cl.cnt⟩, h.th1, h.th5, h.th, h.va, h.ou, h.tb, h.tb12⟩
theorem Alive.capP (h : Alive M (some i) sl) (hi : i < M.th.length) {at' : Nat} (hin : InSlots M (M.t i) at') : Alive (capP M i at').1 (some i) (sl + 1) ∧ (capP M i at').2 < (capP M i at').1.ce.length := by
  unfold Go.Proofs.Qxb6500293aGreatRR.capP
  simp only
  split
  · rename_i hc
    refine ⟨h.slack, ?_⟩
    have s0 := capF_le M.ce at' (M.t i).op.reverse
    rw [List.length_reverse] at s0
    change capI M i at' ≤ _ at s0
    have hlt : capI M i at' - 1 < (M.t i).op.length := by omega
    show (M.t i).op[capI M i at' - 1]?.getD 0 < M.ce.length
    rw [List.getElem?_eq_getElem hlt]
    exact ((h.th i hi).opm _ (List.getElem_mem hlt)).1
  · rename_i hc
    refine ⟨h.capN hi hin (fun h0 e => hc ⟨h0, e⟩), ?_⟩
    show M.ce.length < (M.ce ++ [_]).length
    simp
end
theorem capP_ux (N : Mc) (u : List Nat) (i at' : Nat) : Go.Proofs.Qxb6500293aGreatRR.capP { N with ux := u } i at' = ({ (Go.Proofs.Qxb6500293aGreatRR.capP N i at').1 with ux := u }, (Go.Proofs.Qxb6500293aGreatRR.capP N i at').2) := by
  unfold Go.Proofs.Qxb6500293aGreatRR.capP
  simp only
  have e1 : capI { N with ux := u } i at' = capI N i at' := rfl
  have e2 : ({ N with ux := u } : Mc).t i = N.t i := rfl
  have e3 : ∀ c, ({ N with ux := u } : Mc).x c = N.x c := fun _ => rfl
  rw [e1, e2, e3]
  split
  · rfl
  · rfl
/-- What stays as it was. -/
structure CapSame (N N' : Mc) (i : Nat) : Prop where
  pr : N'.pr = N.pr
  ds : N'.ds = N.ds
  cs : N'.cs = N.cs
  ux : N'.ux = N.ux
  th : N'.th.length = N.th.length
  sk : (N'.t i).sk = (N.t i).sk
  fr : (N'.t i).fr = (N.t i).fr
  fuel : N'.fuel = N.fuel
  out : N'.out = N.out
theorem CapSame.refl (N : Mc) (i : Nat) : CapSame N N i := ⟨rfl, rfl, rfl, rfl, rfl, rfl, rfl, rfl, rfl⟩
theorem CapSame.trans {N N' N'' : Mc} {i : Nat} (h : CapSame N N' i) (g : CapSame N' N'' i) : CapSame N N'' i := ⟨g.pr.trans h.pr, g.ds.trans h.ds, g.cs.trans h.cs, g.ux.trans h.ux, g.th.trans h.th, g.sk.trans h.sk, g.fr.trans h.fr, g.fuel.trans h.fuel, g.out.trans h.out⟩
theorem capP_same {N : Mc} {i : Nat} (hi : i < N.th.length) (at' : Nat) : CapSame N (Go.Proofs.Qxb6500293aGreatRR.capP N i at').1 i ∧ N.ce.length ≤ (Go.Proofs.Qxb6500293aGreatRR.capP N i at').1.ce.length := by
  unfold Go.Proofs.Qxb6500293aGreatRR.capP
  simp only
  split
  · exact ⟨CapSame.refl _ _, Nat.le_refl _⟩
  · refine ⟨⟨rfl, rfl, rfl, rfl, th_setT _ _ _, ?_, ?_, rfl, rfl⟩, ?_⟩
    · show ((N.setT i _).t i).sk = _
      rw [t_setT hi]
    · show ((N.setT i _).t i).fr = _
      rw [t_setT hi]
    · show N.ce.length ≤ (N.ce ++ [_]).length
      simp
theorem InSlots.of {N N' : Mc} {i a : Nat} (h : CapSame N N' i) (hin : InSlots N (N.t i) a) : InSlots N' (N'.t i) a := by
  obtain ⟨j, f, h1, h2, h3⟩ := hin
  refine ⟨j, f, by rw [h.fr]; exact h1, h2, ?_⟩
  unfold Mc.p Mc.c at h3 ⊢
  rw [h.pr, h.cs]
  exact h3
theorem closF_alive {i base clo : Nat} {u0 : List Nat} : ∀ (l : List (Nat × Nat)) (N : Mc) (us : List Nat) (k : Nat), Alive N (some i) k → i < N.th.length → N.ux = u0 → (∀ u ∈ us, u < N.ce.length) → (∀ d ∈ l, (d.1 = 1 → InSlots N (N.t i) (base + d.2)) ∧ (d.1 ≠ 1 → (N.c clo).up + d.2 < u0.length)) →
    ∃ N' us', closF i base clo l { N with ux := u0 ++ us } = { N' with ux := u0 ++ us' } ∧ Alive N' (some i) (k + l.length) ∧ us'.length = us.length + l.length ∧ (∀ u ∈ us', u < N'.ce.length) ∧ CapSame N N' i
  | [], N, us, k, hA, hi, hu, hus, hl => ⟨N, us, rfl, hA, rfl, hus, CapSame.refl _ _⟩
  | d :: r, N, us, k, hA, hi, hu, hus, hl => by
    obtain ⟨hd1, hd0⟩ := hl d (List.mem_cons_self ..)
    have hl' : ∀ d ∈ r, (d.1 = 1 → InSlots N (N.t i) (base + d.2)) ∧ (d.1 ≠ 1 → (N.c clo).up + d.2 < u0.length) := fun e he => hl e (List.mem_cons_of_mem _ he)
    show ∃ N' us', closF i base clo r (clos1 { N with ux := u0 ++ us } i base clo d) = _ ∧ _
    by_cases h1 : d.1 = 1
    · have e1 : clos1 { N with ux := u0 ++ us } i base clo d = { (Go.Proofs.Qxb6500293aGreatRR.capP N i (base + d.2)).1 with ux := u0 ++ (us ++ [(Go.Proofs.Qxb6500293aGreatRR.capP N i (base + d.2)).2]) } := by
        unfold clos1
        rw [if_pos h1, capP_ux]
        simp
      rw [e1]
      obtain ⟨hA1, hc⟩ := hA.capP hi (hd1 h1)
      obtain ⟨hS, hce⟩ := capP_same hi (base + d.2)
      obtain ⟨N', us', q1, q2, q3, q4, q5⟩ := closF_alive r (Go.Proofs.Qxb6500293aGreatRR.capP N i (base + d.2)).1 (us ++ [(Go.Proofs.Qxb6500293aGreatRR.capP N i (base + d.2)).2]) (k + 1) hA1 (by rw [hS.th]; exact hi) (hS.ux.trans hu) (by
        intro u hu'
        rcases List.mem_append.1 hu' with g | g
        · have := hus u g
          omega
        · rw [List.mem_singleton] at g
          rw [g]; exact hc) (fun e he => ⟨fun h => (((hl' e he).1 h).of hS), fun h => by
            have := (hl' e he).2 h
            unfold Mc.c at this ⊢
            rw [hS.cs]
            exact this⟩)
      refine ⟨N', us', q1, ?_, ?_, q4, hS.trans q5⟩
      · have : k + (d :: r).length = k + 1 + r.length := by simp; omega
        rw [this]
        exact q2
      · rw [q3]
        simp
        omega
    · have hlt := hd0 h1
      have e1 : clos1 { N with ux := u0 ++ us } i base clo d = { N with ux := u0 ++ (us ++ [u0[(N.c clo).up + d.2]?.getD 0]) } := by
        unfold clos1
        rw [if_neg h1]
        have : upX { N with ux := u0 ++ us } clo d.2 = u0[(N.c clo).up + d.2]?.getD 0 := by
          show (u0 ++ us)[(N.c clo).up + d.2]?.getD 0 = _
          rw [List.getElem?_append_left hlt]
        rw [this]
        simp
      rw [e1]
      obtain ⟨N', us', q1, q2, q3, q4, q5⟩ := closF_alive r N (us ++ [u0[(N.c clo).up + d.2]?.getD 0]) (k + 1) hA.slack hi hu (by
        intro u hu'
        rcases List.mem_append.1 hu' with g | g
        · exact hus u g
        · rw [List.mem_singleton] at g
          rw [g, List.getElem?_eq_getElem hlt]
          refine hA.cl.ux _ ?_
          rw [hu]
          exact List.getElem_mem hlt) hl'
      refine ⟨N', us', q1, ?_, ?_, q4, q5⟩
      · have : k + (d :: r).length = k + 1 + r.length := by simp; omega
        rw [this]
        exact q2
      · rw [q3]
        simp
        omega
theorem tileC_app {u0 : Nat} (c : Cs) : ∀ (l : List Cs) (u : Nat), tileC u0 l u → c.up = u0 → tileC (u0 + c.nup) (l ++ [c]) u
  | [], u, h, hc => by
    have h : u = u0 := h
    exact ⟨by omega, by show u + c.nup = u0 + c.nup; omega⟩
  | d :: r, u, h, hc => ⟨h.1, tileC_app c r _ h.2 hc⟩
/-- A new closure. -/
theorem Alive.newClo {N : Mc} {i k x nup : Nat} {us : List Nat} (h : Alive N (some i) k) (hi : i < N.th.length) (hx : x < N.pr.length) (hn : nup = (N.pr[x]?.getD dP).nup) (hus : us.length = nup) (hk : k = nup) (hu : ∀ u ∈ us, u < N.ce.length) (h24 : N.cs.length < 24) : Alive { N with ux := N.ux ++ us, cs := N.cs ++ [⟨x, N.ux.length, nup⟩] } (some i) 0 := by
  have hp := h.st.each _ (h.pro hx)
  have okm : ∀ v, okV N v → okV ({ N with ux := N.ux ++ us, cs := N.cs ++ [⟨x, N.ux.length, nup⟩] } : Mc) v := fun v hv => hv.mono (Nat.le_refl _) (by simp) (Nat.le_refl _)
  have hcs : (N.cs ++ [(⟨x, N.ux.length, nup⟩ : Cs)]).length = N.cs.length + 1 := by simp
  have hux : (N.ux ++ us).length = N.ux.length + nup := by simp [hus]
  refine ⟨h.en, ⟨h.st.pr1, h.st.pr13, h.st.tile, h.st.each, h.st.win, h.st.lds, h.st.lks, h.st.lco, h.st.ds, h.st.co, h.st.ks⟩, ⟨by show 1 ≤ (N.cs ++ [_]).length; omega, by show (N.cs ++ [_]).length ≤ 24; omega, ?_, ?_, ?_, ?_, ?_, h.cl.ceo, h.cl.cec, h.cl.cnt⟩, h.th1, h.th5, ?_, ⟨fun v hv => okm v (h.va.ks v hv), fun c hc => okm _ (h.va.ce c hc), fun t ht v hv => okm _ (h.va.sk t ht v hv), fun t ht e he => ⟨okm _ (h.va.tb t ht e he).1, okm _ (h.va.tb t ht e he).2⟩⟩, ⟨h.ou.fuel, h.ou.out, h.ou.line⟩, h.tb, h.tb12⟩
  · show tileC (N.ux ++ us).length (N.cs ++ [_]) 0
    rw [hux]
    exact tileC_app ⟨x, N.ux.length, nup⟩ N.cs 0 h.cl.tile rfl
  · intro c hc
    show c.p < N.pr.length ∧ c.nup = (N.pr[c.p]?.getD dP).nup ∧ c.up + c.nup ≤ (N.ux ++ us).length
    rcases List.mem_append.1 hc with g | g
    · have := h.cl.each c g
      rw [hux]
      exact ⟨this.1, this.2.1, by omega⟩
    · rw [List.mem_singleton] at g
      subst g
      rw [hux]
      exact ⟨hx, hn, Nat.le_refl _⟩
  · intro u hu'
    rcases List.mem_append.1 hu' with g | g
    · exact h.cl.ux u g
    · exact hu u g
  · show (N.ux ++ us).length ≤ 255 * (N.cs ++ [_]).length
    rw [hux, hcs]
    have := h.cl.lux
    omega
  · show N.ce.length ≤ (N.ux ++ us).length + 0
    rw [hux]
    have := h.cl.lce
    omega
  · intro j hj
    refine (h.th j hj).of ?_ ?_ (Nat.le_refl _) (fun c _ => ⟨rfl, rfl⟩) (fun a b => (h.th j hj).main0 a b) Iff.rfl
    · show N.cs.length ≤ (N.cs ++ [_]).length
      omega
    · intro c hc
      show (N.pr[((N.cs ++ [_])[c]?.getD dC).p]?.getD dP) = _
      rw [List.getElem?_append_left hc]
      rfl
/-- closure keeps the invariant. -/
theorem Alive.clos {M : Mc} {i : Nat} (hA : Alive M (some i)) (hi : i < M.th.length) {x : Nat} (hs : soundP M i 28 x = true) (h24 : M.cs.length < 24) : Alive (closP M i x).M (some i) ∧ (closP M i x).k = 0 ∧ (closP M i x).x = M.cs.length ∧ (closP M i x).M.cs.length = M.cs.length + 1 ∧ (closP M i x).M.th.length = M.th.length ∧ ((closP M i x).M.t i).sk = (M.t i).sk ∧ ((closP M i x).M.t i).fr = (M.t i).fr ∧ (closP M i x).M.fuel = M.fuel ∧ (closP M i x).M.out = M.out ∧ (∀ c, c < M.cs.length → (closP M i x).M.p c = M.p c) := by
  obtain ⟨r1, r2, r3, r4, r5, r6, r7⟩ := hA.runs hi
  have hs : (decide (x < M.pr.length) && ((M.ds.drop (M.pr[x]?.getD dP).up).take (M.pr[x]?.getD dP).nup).all (descOk (M.p (M.t i).f.clo).ns (M.c (M.t i).f.clo).nup)) = true := hs
  simp only [Bool.and_eq_true, decide_eq_true_eq] at hs
  obtain ⟨hx, hd⟩ := hs
  have hw := hA.st.win _ (hA.pro hx)
  have hcl := hA.clo r4
  have hall := List.all_eq_true.1 hd
  have hdl : (descs M x).length = (M.pr[x]?.getD dP).nup := by
    unfold descs
    rw [List.length_take, List.length_drop]
    omega
  obtain ⟨N, us, q1, q2, q3, q4, q5⟩ := closF_alive (i := i) (base := (M.t i).f.base) (clo := (M.t i).f.clo) (u0 := M.ux) (descs M x) M [] 0 hA hi rfl (by simp) (by
    intro d hd'
    have hk := hA.st.ds d (List.mem_of_mem_drop (List.mem_of_mem_take hd'))
    have h2 := hall d hd'
    unfold descOk at h2
    refine ⟨fun h1 => ⟨(M.t i).fr.length - 1, (M.t i).f, Th.f_at r2, by omega, ?_⟩, fun h0 => ?_⟩
    · rw [h1] at h2
      simp at h2
      omega
    · have h0 : d.1 = 0 := by omega
      rw [h0] at h2
      simp at h2
      omega)
  have e0 : ({ M with ux := M.ux ++ [] } : Mc) = M := by rw [List.append_nil]
  rw [e0] at q1
  have e1 : closP M i x = ok { N with ux := N.ux ++ us, cs := N.cs ++ [⟨x, N.ux.length, (M.pr[x]?.getD dP).nup⟩] } M.cs.length := by
    unfold closP
    rw [if_neg (by omega)]
    simp only
    rw [q1, ← q5.ux, ← q5.cs]
  rw [e1]
  have hN := Alive.newClo (us := us) q2 (by rw [q5.th]; exact hi) (x := x) (nup := (M.pr[x]?.getD dP).nup) (by rw [q5.pr]; exact hx) (by rw [q5.pr]) (by rw [q3, hdl]; simp) (by rw [hdl]; simp) q4 (by rw [q5.cs]; exact h24)
  refine ⟨hN, rfl, rfl, ?_, q5.th, q5.sk, q5.fr, q5.fuel, q5.out, ?_⟩
  · show (N.cs ++ [_]).length = _
    rw [q5.cs]
    simp
  · intro c hc
    show (N.pr[((N.cs ++ [_])[c]?.getD dC).p]?.getD dP) = _
    rw [q5.cs, q5.pr, List.getElem?_append_left hc]
    rfl
end Go.Proofs.Qxb6500293aGreatRR
