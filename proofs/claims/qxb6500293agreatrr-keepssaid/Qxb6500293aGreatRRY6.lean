/-
  THE MACHINE, PLAIN: the invariant is kept: spawning, frames that come and go.
-/
import Derived.Test.Qxb6500293aGreatRRY4
namespace Go.Proofs.Qxb6500293aGreatRR
open Ieee (double)
set_option linter.unusedVariables false

section
variable {M : Mc} {run : Option Nat} {i sl : Nat}
theorem spawn_t (fn k : Nat) : (spawnP M fn).t k = if k = M.th.length then ⟨1, fn, [], [], []⟩ else M.t k := by
  show (M.th ++ [_])[k]?.getD dT = _
  by_cases c : k < M.th.length
  · rw [List.getElem?_append_left c, if_neg (by omega)]
    rfl
  · rw [List.getElem?_append_right (by omega)]
    by_cases d : k = M.th.length
    · rw [if_pos d, d, Nat.sub_self]
      rfl
    · rw [if_neg d]
      unfold Mc.t
      rw [List.getElem?_eq_none (show M.th.length ≤ k by omega), List.getElem?_eq_none (by simp; omega)]
theorem Alive.spawn (h : Alive M (some i) sl) (hi : i < M.th.length) {fn : Nat} (hf : fn < M.cs.length) (h5 : M.th.length < 5) : Alive (spawnP M fn) (some i) sl := by
  have hl : (spawnP M fn).th.length = M.th.length + 1 := by show (M.th ++ [_]).length = _; simp
  have okm : ∀ v, okV M v → okV (spawnP M fn) v := fun v hv => hv.mono (Nat.le_refl _) (Nat.le_refl _) (by omega)
  obtain ⟨r1, _⟩ := h.runs hi
  refine ⟨h.en, ⟨h.st.pr1, h.st.pr13, h.st.tile, h.st.each, h.st.win, h.st.lds, h.st.lks, h.st.lco, h.st.ds, h.st.co, h.st.ks⟩, ⟨h.cl.cs1, h.cl.cs24, h.cl.tile, h.cl.each, h.cl.ux, h.cl.lux, h.cl.lce, ?_, h.cl.cec, ?_⟩, by omega, by omega, ?_, ⟨fun v hv => okm v (h.va.ks v hv), fun c hc => okm _ (h.va.ce c hc), ?_, fun t ht e he => ⟨okm _ (h.va.tb t ht e he).1, okm _ (h.va.tb t ht e he).2⟩⟩, ⟨h.ou.fuel, h.ou.out, h.ou.line⟩, h.tb, h.tb12⟩
  · intro x hx hx0
    obtain ⟨k, h1, h2, h3⟩ := h.cl.ceo x hx hx0
    refine ⟨k, h1, by omega, ?_⟩
    rw [spawn_t, if_neg (by omega)]
    exact h3
  · show ((M.th ++ [(⟨1, fn, [], [], []⟩ : Th)]).map (fun t => t.op.length)).sum = _
    rw [List.map_append, List.sum_append]
    have := h.cl.cnt
    show _ + 0 = M.ce.countP _
    omega
  · intro k hk
    rw [spawn_t]
    by_cases c : k = M.th.length
    · rw [if_pos c]
      subst c
      refine ⟨hf, ⟨fun q => absurd q (show ¬ 1 = 4 by decide), fun q => by injection q; omega⟩, ⟨show 1 ≤ 1 by decide, show 1 ≤ 5 by decide⟩, fun q => by have := h.th1; omega, fun _ => show 1 ≠ 2 by decide, fun _ => ⟨rfl, rfl, rfl⟩, fun q => absurd rfl q, show 0 ≤ 8 by decide, fun j f hj => by simp at hj, fun c hc => by simp at hc, List.Pairwise.nil⟩
    · rw [if_neg c]
      have hk' : k < M.th.length := by omega
      refine (h.th k hk').of (Nat.le_refl _) (fun _ _ => rfl) (Nat.le_refl _) (fun _ _ => ⟨rfl, rfl⟩) (fun a b => ?_) Iff.rfl
      have := (h.th k hk').main0 a b
      have e : i = k := by omega
      subst e
      omega
  · intro t ht v hv
    rcases List.mem_append.1 (show t ∈ M.th ++ [_] from ht) with c | c
    · exact okm v (h.va.sk t c v hv)
    · rw [List.mem_singleton] at c
      rw [c] at hv
      simp at hv
/-- A frame is built above the running thread's stack. -/
theorem enter_len (M : Mc) (c : Nat) (args : List V) : ((List.range (M.p c).ns).map (fun j => if j < (M.p c).np then args[j]?.getD nilV else nilV)).length = (M.p c).ns := by simp
theorem enter_okV {c : Nat} {args : List V} (hv : ∀ v ∈ args, okV M v) : ∀ v ∈ ((List.range (M.p c).ns).map (fun j => if j < (M.p c).np then args[j]?.getD nilV else nilV)), okV M v := by
  intro v hm
  rw [List.mem_map] at hm
  obtain ⟨j, _, rfl⟩ := hm
  by_cases d : j < (M.p c).np
  · rw [if_pos d]
    by_cases e : j < args.length
    · rw [List.getElem?_eq_getElem e]
      exact hv _ (List.getElem_mem e)
    · rw [List.getElem?_eq_none (by omega)]
      exact nil_okV M
  · rw [if_neg d]
    exact nil_okV M
theorem Alive.enter (h : Alive M (some i) sl) (hi : i < M.th.length) {c : Nat} (hc : c < M.cs.length) (args : List V) (hv : ∀ v ∈ args, okV M v) (ret : Nat) (prot : Bool) (hr1 : (M.t i).f.base + (M.p (M.t i).f.clo).ns ≤ ret) (hr2 : ret + 2 ≤ (M.t i).f.base + (M.p (M.t i).f.clo).ns + 128) (hr3 : ret < (M.t i).sk.length) (hr4 : (M.t i).sk.length ≤ ret + 4) (h8 : (M.t i).fr.length < 8) : Alive (enterP M i c args ret prot) (some i) sl := by
  obtain ⟨r1, r2, r3, r4, r5, r6, r7⟩ := h.runs hi
  have ht := h.th i hi
  have hsl := enter_len M c args
  have hso := enter_okV (c := c) hv
  unfold enterP
  generalize ((List.range (M.p c).ns).map (fun j => if j < (M.p c).np then args[j]?.getD nilV else nilV)) = sls at *
  obtain ⟨t, hte⟩ : ∃ t, t = M.t i := ⟨_, rfl⟩
  have hskV := h.skV hi
  rw [← hte] at r1 r2 r3 r4 r5 r6 r7 ht hr1 hr2 hr3 hr4 h8 hskV ⊢
  obtain ⟨t', ht'⟩ : ∃ t' : Th, t' = { t with sk := t.sk ++ sls, fr := t.fr ++ [⟨c, 0, t.sk.length, ret, prot⟩] } := ⟨_, rfl⟩
  have hlf : t'.fr.length = t.fr.length + 1 := by rw [ht']; simp
  have hlo : ∀ j, j < t.fr.length → t'.fr[j]? = t.fr[j]? := fun j hj => by rw [ht']; exact List.getElem?_append_left hj
  have hnew : t'.fr[t.fr.length]? = some ⟨c, 0, t.sk.length, ret, prot⟩ := by rw [ht']; show (t.fr ++ [_])[t.fr.length]? = _; rw [List.getElem?_append_right (Nat.le_refl _), Nat.sub_self]; rfl
  have hsk' : t'.sk.length = t.sk.length + (M.p c).ns := by rw [ht']; show (t.sk ++ sls).length = _; rw [List.length_append, hsl]
  have hst : t'.st = t.st := by rw [ht']
  have hfn : t'.fn = t.fn := by rw [ht']
  have hop : t'.op = t.op := by rw [ht']
  rw [← ht']
  have hfl : t.fr[t.fr.length - 1]? = some t.f := Th.f_at r2
  refine h.setT hi _ (by rw [hop, hte]) ?_ ?_ (fun _ _ => Iff.rfl)
  · refine ⟨by rw [hfn]; exact ht.fn, by rw [hst]; exact ht.isrun, by rw [hst]; exact ht.st, by rw [hst]; exact ht.main0, by rw [hst]; exact ht.main1, fun q => by omega, fun _ _ => by omega, by omega, ?_, ?_, by rw [hop]; exact ht.ops⟩
    · intro j f hf
      have hjl := (List.getElem?_eq_some_iff.1 hf).1
      rw [if_pos rfl]
      by_cases c1 : j = t.fr.length
      · subst c1
        rw [hnew] at hf
        cases hf
        have e1 : endF t' t.fr.length = t'.sk.length := endF_last (by omega)
        have e2 : topF t' t.fr.length = t'.sk.length := topF_last (by omega)
        refine ⟨hc, Nat.zero_le _, by show ret ≤ t.sk.length; omega, fun q => by omega, ?_, ?_, ⟨by omega, by omega⟩, fun q => by omega⟩
        · show t.sk.length + (M.p c).ns ≤ _
          omega
        · rw [if_neg (by omega)]
          show _ ≤ t.sk.length + (M.p c).ns + 128
          omega
      · have hj : j < t.fr.length := by omega
        rw [hlo j hj] at hf
        obtain ⟨a1, a2, a3, a4, a5, a6, a7, a8⟩ := ht.frs j f hf
        by_cases c2 : j + 1 = t.fr.length
        · have e1 : endF t' j = ret := endF_in (by rw [c2]; exact hnew)
          have e2 : topF t' j = t.sk.length := topF_in (by rw [c2]; exact hnew)
          have e3 : f = t.f := by rw [show t.fr.length - 1 = j by omega, hf] at hfl; cases hfl; rfl
          subst e3
          refine ⟨a1, a2, a3, a4, by omega, by rw [if_pos (by omega)]; omega, ⟨by omega, by omega⟩, fun q => ⟨by omega, by omega, by omega⟩⟩
        · obtain ⟨g, hg⟩ : ∃ g, t.fr[j + 1]? = some g := ⟨_, List.getElem?_eq_getElem (by omega)⟩
          have e1 : endF t' j = endF t j := by rw [endF_in hg]; exact endF_in (by rw [hlo _ (by omega)]; exact hg)
          have e2 : topF t' j = topF t j := by rw [topF_in hg]; exact topF_in (by rw [hlo _ (by omega)]; exact hg)
          rw [if_pos (by omega)] at a6
          refine ⟨a1, a2, a3, a4, by omega, by rw [if_pos (by omega)]; omega, ⟨by omega, by omega⟩, fun q => ?_⟩
          have := a8 (by omega)
          omega
    · rw [hop]
      intro d hd
      obtain ⟨b1, b2, j, f, b3, b4, b5⟩ := ht.opm d hd
      exact ⟨b1, b2, j, f, by rw [hlo j (List.getElem?_eq_some_iff.1 b3).1]; exact b3, b4, b5⟩
  · intro v hvm
    rw [ht'] at hvm
    rcases List.mem_append.1 (show v ∈ t.sk ++ sls from hvm) with q | q
    · exact hskV v q
    · exact hso v q
/-- A fresh thread's first frame. -/
theorem Alive.first (h : Alive M none sl) (hi : i < M.th.length) (h1 : (M.t i).st = 1) (args : List V) (hv : ∀ v ∈ args, okV M v) : Alive ((enterP M i (M.t i).fn args 0 false).setT i { (enterP M i (M.t i).fn args 0 false).t i with st := 4 }) (some i) sl := by
  have ht := h.th i hi
  have hsl := enter_len M (M.t i).fn args
  have hso := enter_okV (c := (M.t i).fn) hv
  have he : (enterP M i (M.t i).fn args 0 false).t i = { M.t i with sk := (M.t i).sk ++ (List.range (M.p (M.t i).fn).ns).map (fun j => if j < (M.p (M.t i).fn).np then args[j]?.getD nilV else nilV), fr := (M.t i).fr ++ [⟨(M.t i).fn, 0, (M.t i).sk.length, 0, false⟩] } := t_setT hi _
  rw [he]
  unfold enterP
  rw [setT_setT]
  generalize ((List.range (M.p (M.t i).fn).ns).map (fun j => if j < (M.p (M.t i).fn).np then args[j]?.getD nilV else nilV)) = sls at *
  obtain ⟨d1, d2, d3⟩ := ht.dead (.inl h1)
  refine h.setT hi _ rfl ?_ ?_ (fun k hk => ⟨fun q => (by cases q), fun q => (by injection q with q; exact absurd q.symm hk)⟩)
  · have hfr : ∀ j f, ((M.t i).fr ++ [(⟨(M.t i).fn, 0, (M.t i).sk.length, 0, false⟩ : Fr)])[j]? = some f → j = 0 ∧ f = ⟨(M.t i).fn, 0, 0, 0, false⟩ := by
      intro j f hj
      rw [d1, d2] at hj
      cases j with
      | zero => exact ⟨rfl, by simpa using hj.symm⟩
      | succ j => simp at hj
    refine ⟨ht.fn, ⟨fun _ => rfl, fun _ => rfl⟩, ⟨by show 1 ≤ 4; omega, by show 4 ≤ 5; omega⟩, fun _ q => absurd q (by show ¬ 4 = 1; omega), fun _ => by show ¬ 4 = 2; omega, fun q => by rcases q with q | q <;> exact absurd q (by show ¬ 4 = _; omega), fun _ _ => by show 1 ≤ ((M.t i).fr ++ [_]).length; simp, by show ((M.t i).fr ++ [_]).length ≤ 8; rw [d2]; simp, ?_, ?_, ht.ops⟩
    · intro j f hj
      obtain ⟨rfl, rfl⟩ := hfr j f hj
      have e0 : ((M.t i).fr ++ [(⟨(M.t i).fn, 0, (M.t i).sk.length, 0, false⟩ : Fr)]).length = 1 := by rw [d2]; rfl
      have e1 : endF ({ M.t i with sk := (M.t i).sk ++ sls, fr := (M.t i).fr ++ [⟨(M.t i).fn, 0, (M.t i).sk.length, 0, false⟩], st := 4 } : Th) 0 = (M.p (M.t i).fn).ns := by
        refine (endF_last (by show ((M.t i).fr ++ [_]).length ≤ 1; rw [e0]; exact Nat.le_refl _)).trans ?_
        show ((M.t i).sk ++ sls).length = _
        rw [d1, List.nil_append, hsl]
      have e2 : topF ({ M.t i with sk := (M.t i).sk ++ sls, fr := (M.t i).fr ++ [⟨(M.t i).fn, 0, (M.t i).sk.length, 0, false⟩], st := 4 } : Th) 0 = (M.p (M.t i).fn).ns := by
        refine (topF_last (by show ((M.t i).fr ++ [_]).length ≤ 1; rw [e0]; exact Nat.le_refl _)).trans ?_
        show ((M.t i).sk ++ sls).length = _
        rw [d1, List.nil_append, hsl]
      refine ⟨ht.fn, Nat.zero_le _, Nat.zero_le _, fun _ => ⟨rfl, rfl, rfl⟩, by rw [e1]; show 0 + _ ≤ _; rw [Nat.zero_add]; exact Nat.le_refl _, ?_, ⟨by rw [e1, e2]; exact Nat.le_refl _, ?_⟩, fun q => ?_⟩
      · rw [e1, if_pos rfl]
        show _ + (if 0 + 1 < ((M.t i).fr ++ [_]).length then 2 else 0) ≤ 0 + (M.p (M.t i).fn).ns + 128
        rw [e0, if_neg (by omega)]
        omega
      · rw [e2]
        show _ ≤ ((M.t i).sk ++ sls).length
        rw [d1, List.nil_append, hsl]
        exact Nat.le_refl _
      · have q : 0 + 1 < ((M.t i).fr ++ [(⟨(M.t i).fn, 0, (M.t i).sk.length, 0, false⟩ : Fr)]).length := q
        rw [e0] at q
        omega
    · intro d hd
      have hd : d ∈ (M.t i).op := hd
      rw [d3] at hd
      simp at hd
  · intro v hvm
    rcases List.mem_append.1 (show v ∈ (M.t i).sk ++ sls from hvm) with q | q
    · exact h.skV hi v q
    · exact hso v q
/-- The frames from n on go; two results are laid where the called function lay. -/
theorem Alive.popF (h : Alive M (some i) sl) (hi : i < M.th.length) {n : Nat} {f : Fr} (hf : (M.t i).fr[n]? = some f) (hn : 1 ≤ n) (hop : ∀ c ∈ (M.t i).op, (M.x c).at' < f.base) {r s : V} (hr : okV M r) (hs : okV M s) : Alive (M.setT i { M.t i with sk := (M.t i).sk.take f.ret ++ [r, s], fr := (M.t i).fr.take n }) (some i) sl := by
  obtain ⟨r1, r2, r3, r4, r5, r6, r7⟩ := h.runs hi
  have ht := h.th i hi
  have hnl := (List.getElem?_eq_some_iff.1 hf).1
  have hb := ht.base_le hf
  have hrb := (ht.frs n f hf).ret
  obtain ⟨t, hte⟩ : ∃ t, t = M.t i := ⟨_, rfl⟩
  have hskV := h.skV hi
  rw [← hte] at r1 r2 r3 r4 r5 r6 r7 ht hf hop hnl hb hskV ⊢
  obtain ⟨t', ht'⟩ : ∃ t' : Th, t' = { t with sk := t.sk.take f.ret ++ [r, s], fr := t.fr.take n } := ⟨_, rfl⟩
  have hlf : t'.fr.length = n := by rw [ht']; show (t.fr.take n).length = n; rw [List.length_take]; omega
  have hlo : ∀ j, j < n → t'.fr[j]? = t.fr[j]? := fun j hj => by rw [ht']; show (t.fr.take n)[j]? = _; rw [List.getElem?_take, if_pos hj]
  have hsk' : t'.sk.length = f.ret + 2 := by rw [ht']; show (t.sk.take f.ret ++ [r, s]).length = _; simp; omega
  have hst : t'.st = t.st := by rw [ht']
  have hfn : t'.fn = t.fn := by rw [ht']
  have hop' : t'.op = t.op := by rw [ht']
  rw [← ht']
  refine h.setT hi _ (by rw [hop', hte]) ?_ ?_ (fun _ _ => Iff.rfl)
  · refine ⟨by rw [hfn]; exact ht.fn, by rw [hst]; exact ht.isrun, by rw [hst]; exact ht.st, by rw [hst]; exact ht.main0, by rw [hst]; exact ht.main1, fun q => by omega, fun _ _ => by omega, by omega, ?_, ?_, by rw [hop']; exact ht.ops⟩
    · intro j g hg
      have hjl := (List.getElem?_eq_some_iff.1 hg).1
      rw [hlf] at hjl
      rw [hlo j hjl] at hg
      rw [if_pos rfl]
      obtain ⟨a1, a2, a3, a4, a5, a6, a7, a8⟩ := ht.frs j g hg
      rw [if_pos (by omega)] at a6
      have a8 := a8 (by omega)
      by_cases c2 : j + 1 = n
      · have e1 : endF t' j = f.ret + 2 := by rw [← hsk']; exact endF_last (by omega)
        have e2 : topF t' j = f.ret + 2 := by rw [← hsk']; exact topF_last (by omega)
        have e3 : endF t j = f.ret := endF_in (by rw [c2]; exact hf)
        refine ⟨a1, a2, a3, a4, by omega, by rw [if_neg (by omega)]; omega, ⟨by omega, by omega⟩, fun q => by omega⟩
      · obtain ⟨u, hu⟩ : ∃ u, t.fr[j + 1]? = some u := ⟨_, List.getElem?_eq_getElem (by omega)⟩
        have e1 : endF t' j = endF t j := by rw [endF_in hu]; exact endF_in (by rw [hlo _ (by omega)]; exact hu)
        have e2 : topF t' j = topF t j := by rw [topF_in hu]; exact topF_in (by rw [hlo _ (by omega)]; exact hu)
        have e3 : topF t j = u.base := topF_in hu
        obtain ⟨k, hk⟩ : ∃ k, n = (j + 1) + (k + 1) := ⟨n - (j + 1) - 1, by omega⟩
        have hmo := ht.mono hu (k := k) (g := f) (by rw [← hk]; exact hf)
        refine ⟨a1, a2, a3, a4, by omega, by rw [if_pos (by omega)]; omega, ⟨by omega, by omega⟩, fun q => by omega⟩
    · rw [hop']
      intro d hd
      obtain ⟨b1, b2, j, g, b3, b4, b5⟩ := ht.opm d hd
      have hlt := hop d hd
      refine ⟨b1, b2, j, g, ?_, b4, b5⟩
      have hjn : j < n := by
        rcases Nat.lt_or_ge j n with q | q
        · exact q
        · exfalso
          rcases Nat.eq_or_lt_of_le q with q | q
          · subst q
            rw [hf] at b3
            cases b3
            omega
          · obtain ⟨k, hk⟩ : ∃ k, j = n + (k + 1) := ⟨j - n - 1, by omega⟩
            rw [hk] at b3
            have hmo := ht.mono hf b3
            have := (ht.frs _ g b3).ret
            omega
      rw [hlo j hjn]
      exact b3
  · intro v hvm
    rw [ht'] at hvm
    rcases List.mem_append.1 (show v ∈ t.sk.take f.ret ++ [r, s] from hvm) with q | q
    · exact hskV v (List.mem_of_mem_take q)
    · simp at q
      rcases q with q | q
      · rw [q]; exact hr
      · rw [q]; exact hs
/-- The thread is dead. -/
theorem Alive.kill (h : Alive M (some i) sl) (hi : i < M.th.length) : Alive (killP M i) none sl := by
  obtain ⟨h1, h2⟩ := h.close hi 0
  have hi1 : i < (closeP M i 0).th.length := by show i < (M.setT i _).th.length; rw [th_setT]; exact hi
  unfold killP
  have ht := h1.th i hi1
  have hop : ((closeP M i 0).t i).op = [] := by
    cases hq : ((closeP M i 0).t i).op with
    | nil => rfl
    | cons c r => have := h2 c (by rw [hq]; simp); omega
  show Alive ((closeP M i 0).setT i _) none sl
  refine h1.setT hi1 _ rfl ?_ (fun v hv => by simp at hv) (fun k hk => ⟨fun q => (by injection q with q; exact absurd q.symm hk), fun q => (by cases q)⟩)
  refine ⟨ht.fn, ⟨fun q => absurd q (by show ¬ 5 = 4; omega), fun q => by cases q⟩, ⟨by show 1 ≤ 5; omega, by show 5 ≤ 5; omega⟩, fun _ q => absurd q (by show ¬ 5 = 1; omega), fun _ => by show ¬ 5 = 2; omega, fun _ => ⟨rfl, rfl, hop⟩, fun _ q => absurd rfl q, by show 0 ≤ 8; omega, fun j f hj => by simp at hj, ?_, ht.ops⟩
  intro c hc
  rw [show ({ (closeP M i 0).t i with sk := [], fr := [], st := 5 } : Th).op = [] from hop] at hc
  simp at hc
/-- The running thread stands at a call of another. -/
theorem Alive.pause (h : Alive M (some i) sl) (hi : i < M.th.length) {st : Nat} (hst : st = 3 ∨ st = 2 ∧ i ≠ 0) {n : Nat} (hn : n ≤ (M.t i).sk.length) (hlo : (M.t i).f.base + (M.p (M.t i).f.clo).ns ≤ n) (hhi : n + 2 ≤ (M.t i).f.base + (M.p (M.t i).f.clo).ns + 128) : Alive (cutP (M.setT i { M.t i with st := st }) i n) none sl := by
  obtain ⟨r1, r2, r3, r4, r5, r6, r7⟩ := h.runs hi
  have ht := h.th i hi
  have e : cutP (M.setT i { M.t i with st := st }) i n = M.setT i { M.t i with st := st, sk := (M.t i).sk.take n } := by
    unfold cutP
    rw [t_setT hi, setT_setT]
  rw [e]
  refine h.setT hi _ rfl ?_ (fun v hv => h.skV hi v (List.mem_of_mem_take hv)) (fun k hk => ⟨fun q => (by injection q with q; exact absurd q.symm hk), fun q => (by cases q)⟩)
  refine ht.skTopG r2 _ st none (by rw [List.length_take]; omega) (by rw [List.length_take, if_neg (by simp)]; omega) ⟨fun q => by omega, fun q => by cases q⟩ ⟨by omega, by omega⟩ ⟨by omega, by omega⟩ (fun q => by omega)
/-- A thread that stood at a call goes on. -/
theorem Alive.goOn (h : Alive M none sl) (hi : i < M.th.length) (hst : (M.t i).st = 2 ∨ (M.t i).st = 3) {a b : V} (ha : okV M a) (hb : okV M b) : Alive ((pushP M i [a, b]).setT i { (pushP M i [a, b]).t i with st := 4 }) (some i) sl := by
  have ht := h.th i hi
  have h1 := ht.fr1 (by omega) (by omega)
  have hf := h.top hi h1
  have hm := hf.mid
  have hr := hf.room
  rw [endF_last (by omega)] at hm hr
  rw [if_neg (by omega), if_neg (by simp)] at hr
  rw [push_t hi]
  unfold pushP
  rw [setT_setT]
  refine h.setT hi _ rfl (ht.skTopG h1 _ 4 (some i) (by rw [List.length_append]; omega) (by rw [List.length_append, if_pos rfl]; simp; omega) ⟨fun _ => rfl, fun _ => rfl⟩ ⟨by omega, by omega⟩ ⟨by omega, by omega⟩ (fun _ => by omega)) ?_ (fun k hk => ⟨fun q => (by cases q), fun q => (by injection q with q; exact absurd q.symm hk)⟩)
  intro v hv
  rcases List.mem_append.1 (show v ∈ (M.t i).sk ++ [a, b] from hv) with q | q
  · exact h.skV hi v q
  · simp at q
    rcases q with q | q
    · rw [q]; exact ha
    · rw [q]; exact hb
end
end Go.Proofs.Qxb6500293aGreatRR
