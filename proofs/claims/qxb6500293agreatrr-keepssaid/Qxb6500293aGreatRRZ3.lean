/-
  THE MACHINE, PLAIN: a plain instruction keeps the invariant.
-/
import Derived.Test.Qxb6500293aGreatRRZ2
namespace Go.Proofs.Qxb6500293aGreatRR
open Ieee (double)
set_option linter.unusedVariables false
set_option linter.unusedSimpArgs false

/-- The invariant holds, and this stays as it was: the frames, the fuel, the output, the threads' number, the elder closures' protos. -/
structure Pk (M : Mc) (i : Nat) (M' : Mc) : Prop where
  al : Alive M' (some i)
  fr : (M'.t i).fr = (M.t i).fr
  fuel : M'.fuel = M.fuel
  out : M'.out = M.out
  th : M'.th.length = M.th.length
  cs : M.cs.length ≤ M'.cs.length
  p : ∀ c, c < M.cs.length → M'.p c = M.p c
theorem Pk.refl {M : Mc} {i : Nat} (h : Alive M (some i)) : Pk M i M := ⟨h, rfl, rfl, rfl, rfl, Nat.le_refl _, fun _ _ => rfl⟩
theorem Pk.trans {M M' M'' : Mc} {i : Nat} (h : Pk M i M') (g : Pk M' i M'') : Pk M i M'' :=
  ⟨g.al, g.fr.trans h.fr, g.fuel.trans h.fuel, g.out.trans h.out, g.th.trans h.th, Nat.le_trans h.cs g.cs, fun c hc => (g.p c (Nat.lt_of_lt_of_le hc h.cs)).trans (h.p c hc)⟩
theorem Pk.f {M M' : Mc} {i : Nat} (h : Pk M i M') : (M'.t i).f = (M.t i).f := by unfold Th.f; rw [h.fr]
theorem Pk.pf {M M' : Mc} {i : Nat} (h : Pk M i M') (hc : (M.t i).f.clo < M.cs.length) : M'.p (M'.t i).f.clo = M.p (M.t i).f.clo := by rw [h.f]; exact h.p _ hc
section
variable {M : Mc} {i : Nat}
theorem Pk.sk (h : Alive M (some i)) (hi : i < M.th.length) (sk' : List V) (hlo : (M.t i).f.base + (M.p (M.t i).f.clo).ns ≤ sk'.length) (hhi : sk'.length ≤ (M.t i).f.base + (M.p (M.t i).f.clo).ns + 128) (hv : ∀ v ∈ sk', okV M v) : Pk M i (M.setT i { M.t i with sk := sk' }) :=
  ⟨h.sk hi sk' hlo hhi hv, by rw [t_setT hi], rfl, rfl, th_setT M i _, Nat.le_refl _, fun _ _ => rfl⟩
theorem Pk.push (h : Alive M (some i)) (hi : i < M.th.length) {v : V} (hhi : (M.t i).sk.length + 1 ≤ (M.t i).f.base + (M.p (M.t i).f.clo).ns + 128) (hv : okV M v) : Pk M i (pushP M i [v]) :=
  ⟨h.push hi [v] hhi (fun w hw => by rw [List.mem_singleton] at hw; rw [hw]; exact hv), by rw [push_t hi], rfl, rfl, th_setT M i _, Nat.le_refl _, fun _ _ => rfl⟩
theorem Pk.drop (h : Alive M (some i)) (hi : i < M.th.length) (hlo : (M.t i).f.base + (M.p (M.t i).f.clo).ns + 1 ≤ (M.t i).sk.length) : Pk M i (dropP M i) :=
  ⟨h.drop hi hlo, by rw [drop_t hi], rfl, rfl, th_setT M i _, Nat.le_refl _, fun _ _ => rfl⟩
theorem drop_skl (hi : i < M.th.length) : ((dropP M i).t i).sk.length = (M.t i).sk.length - 1 := by
  rw [drop_t hi]
  show ((M.t i).sk.take _).length = _
  rw [List.length_take]
  omega
theorem Pk.slot (h : Alive M (some i)) (hi : i < M.th.length) (x : Nat) {v : V} (hv : okV M v) : Pk M i (setSlot M i x v) :=
  ⟨h.slot hi x hv, by unfold setSlot; rw [t_setT hi], rfl, rfl, th_setT M i _, Nat.le_refl _, fun _ _ => rfl⟩
theorem Pk.close (h : Alive M (some i)) (hi : i < M.th.length) (at' : Nat) : Pk M i (closeP M i at') := by
  refine ⟨(h.close hi at').1, ?_, rfl, rfl, th_setT M i _, Nat.le_refl _, fun _ _ => rfl⟩
  show ((M.setT i _).t i).fr = _
  rw [t_setT hi]
theorem Pk.tabs (h : Alive M (some i)) (tb : List Tbl) (h1 : M.tb.length ≤ tb.length) (h12 : tb.length ≤ 12) (hv : ∀ t ∈ tb, ∀ e ∈ t, okV M e.1 ∧ okV M e.2) : Pk M i { M with tb := tb } :=
  ⟨h.tabs tb h1 h12 hv, rfl, rfl, rfl, rfl, Nat.le_refl _, fun _ _ => rfl⟩
theorem Pk.setUp (h : Alive M (some i)) (hi : i < M.th.length) {c x : Nat} (hc : c < M.cs.length) (hx : x < (M.c c).nup) {v : V} (hv : okV M v) : Pk M i (setUpP M c x v) := by
  have hu := h.upx hc hx
  unfold setUpP
  simp only
  split
  · rename_i h0
    obtain ⟨h1, h2, h3, h4⟩ := h.cell hu h0
    refine ⟨h.put h1 ⟨h3, h4⟩ hv, ?_, rfl, rfl, th_setT M _ _, Nat.le_refl _, fun _ _ => rfl⟩
    by_cases e : (M.x (upX M c x)).th.toNat = i
    · rw [e, t_setT hi]
    · rw [t_setT_ne e]
  · exact ⟨h.ceV hu hv, rfl, rfl, rfl, rfl, Nat.le_refl _, fun _ _ => rfl⟩
end
/-- The errors that plain instructions throw. -/
def errs : List V := [str mArith, str mConcat, str mLong, str mCompare, str mIndex, str mKey, str mLen, str mFor, str mNext]
theorem errs_okV {M : Mc} {v : V} (h : v ∈ errs) : okV M v := by
  unfold errs at h
  simp only [List.mem_cons, List.not_mem_nil, or_false] at h
  rcases h with rfl | rfl | rfl | rfl | rfl | rfl | rfl | rfl | rfl <;> exact str_okV M (by decide)
def PO {α : Type} (M : Mc) (i : Nat) (o : Ou α) : Prop := (o.k = 0 ∨ o.k = 2 ∨ o.k = 3) ∧ Pk M i o.M ∧ (o.k = 2 → o.v ∈ errs) ∧ (o.k = 3 → o.e = 8)
section
variable {M M' : Mc} {i : Nat} {α : Type}
theorem PO.ok {x : α} (h : Pk M i M') : PO M i (Go.Proofs.Qxb6500293aGreatRR.ok M' x) := ⟨.inl rfl, h, fun e => absurd (show (0 : Nat) = 2 from e) (by decide), fun e => absurd (show (0 : Nat) = 3 from e) (by decide)⟩
theorem PO.thr {d : α} {v : V} (h : Pk M i M') (hv : v ∈ errs) : PO M i (Go.Proofs.Qxb6500293aGreatRR.thr M' d v) := ⟨.inr (.inl rfl), h, fun _ => hv, fun e => absurd (show (2 : Nat) = 3 from e) (by decide)⟩
theorem PO.trp {d : α} (h : Pk M i M') : PO M i (Go.Proofs.Qxb6500293aGreatRR.trp M' d 8) := ⟨.inr (.inr rfl), h, fun e => absurd (show (3 : Nat) = 2 from e) (by decide), fun _ => rfl⟩
theorem PO.store (h : Pk M i M') (hh : Int) {k v : V} (hk : okV M' k) (hv : okV M' v) : PO M i (storeP M' hh k v) := by
  obtain ⟨h1, h2⟩ := setP_okV h.al.va.tb hh hk hv
  have hp : Pk M i { M' with tb := (setP M'.tb hh k v).1 } := h.trans (Pk.tabs h.al _ (by omega) (by rw [h1]; exact h.al.tb12) h2)
  unfold storeP
  simp only
  split
  · exact PO.trp hp
  split
  · exact PO.thr hp (by unfold errs; simp)
  · exact PO.ok hp
end
section
variable {M : Mc} {i : Nat}
/-- The operators. -/
theorem oper_keeps (hA : Alive M (some i)) (hi : i < M.th.length) (op x : Nat) (h1 : (M.t i).f.base + (M.p (M.t i).f.clo).ns + 1 ≤ (M.t i).sk.length) (h2 : op = 15 ∨ op = 16 ∨ op = 17 → (M.t i).f.base + (M.p (M.t i).f.clo).ns + 2 ≤ (M.t i).sk.length) (hop : 15 ≤ op ∧ op ≤ 20) : PO M i (operP M i op x) := by
  obtain ⟨r1, r2, r3, r4, r5, r6, r7⟩ := hA.runs hi
  have k1 := Pk.drop hA hi h1
  have hi1 : i < (dropP M i).th.length := by rw [k1.th]; exact hi
  have l1 := drop_skl (M := M) hi
  have vb := hA.topV hi (by omega)
  have e1 := k1.f
  have e2 := k1.pf r4
  have pu1 : ∀ {v : V}, okV M v → Pk M i (pushP (dropP M i) i [v]) := fun hv => k1.trans (Pk.push k1.al hi1 (by rw [e2, e1, l1]; omega) (hv.mono (Nat.le_refl _) (Nat.le_refl _) (by rw [k1.th]; exact Nat.le_refl _)))
  unfold operP
  simp only
  by_cases c : op = 15 ∨ op = 16 ∨ op = 17
  · have k2 := k1.trans (Pk.drop k1.al hi1 (by rw [e2, e1, l1]; have := h2 c; omega))
    have hi2 : i < (dropP (dropP M i) i).th.length := by rw [k2.th]; exact hi
    have l2 := drop_skl (M := dropP M i) hi1
    have va := k1.al.topV hi1 (by rw [l1]; have := h2 c; omega)
    have f1 := k2.f
    have f2 := k2.pf r4
    have pu2 : ∀ {v : V}, okV M v → Pk M i (pushP (dropP (dropP M i) i) i [v]) := fun hv => k2.trans (Pk.push k2.al hi2 (by rw [f2, f1, l2, l1]; omega) (hv.mono (Nat.le_refl _) (Nat.le_refl _) (by rw [k2.th]; exact Nat.le_refl _)))
    by_cases c15 : op = 15
    · rw [if_pos c15]
      split
      · exact PO.thr k2 (by unfold errs; simp)
      · exact PO.ok (pu2 ((arithW_good _ _ _).okV M (arithW_lt _ _ _)))
    rw [if_neg c15]
    by_cases c16 : op = 16
    · rw [if_pos c16]
      split
      · exact PO.thr k2 (by unfold errs; simp)
      · exact PO.ok (pu2 (bool_okV _ _))
    rw [if_neg c16, if_pos (by omega)]
    split
    · exact PO.thr k2 (by unfold errs; simp)
    split
    · exact PO.thr k2 (by unfold errs; simp)
    · refine PO.ok (pu2 (str_okV _ ?_))
      rw [List.length_append]
      omega
  · rw [if_neg (by omega), if_neg (by omega), if_neg (by omega)]
    split
    · exact PO.ok (pu1 (bool_okV _ _))
    split
    · split
      · exact PO.thr k1 (by unfold errs; simp)
      · exact PO.ok (pu1 ((negW_good _).okV M (negW_lt vb.2)))
    split
    · exact PO.ok (pu1 ((fl_good _).okV M (fl_lt _)))
    split
    · exact PO.ok (pu1 ((fl_good _).okV M (fl_lt _)))
    · exact PO.thr k1 (by unfold errs; simp)
/-- The loops. -/
theorem for_keeps (hA : Alive M (some i)) (hi : i < M.th.length) (op x : Nat) (h1 : op ≠ 30 → (M.t i).sk.length + 1 ≤ (M.t i).f.base + (M.p (M.t i).f.clo).ns + 128) : PO M i (forP M i op x) := by
  obtain ⟨r1, r2, r3, r4, r5, r6, r7⟩ := hA.runs hi
  unfold forP
  simp only
  split
  · split
    · exact PO.thr (Pk.refl hA) (by unfold errs; simp)
    split
    · exact PO.thr (Pk.refl hA) (by unfold errs; simp)
    · exact PO.ok (Pk.refl hA)
  rename_i h30
  split
  · exact PO.ok (Pk.push hA hi (h1 h30) (bool_okV _ _))
  split
  · exact PO.thr (Pk.refl hA) (by unfold errs; simp)
  split
  · exact PO.thr (Pk.refl hA) (by unfold errs; simp)
  · obtain ⟨v1, v2⟩ := nextP_okV hA.va.tb ((slot M i x).N : Int) (slot M i (x + 1))
    have k1 := Pk.slot hA hi (x + 1) v1
    have hi1 := Nat.lt_of_lt_of_eq hi k1.th.symm
    have k2 := k1.trans (Pk.slot k1.al hi1 (x + 2) (v1.mono (Nat.le_refl _) (Nat.le_refl _) (by rw [k1.th]; exact Nat.le_refl _)))
    have hi2 := Nat.lt_of_lt_of_eq hi k2.th.symm
    have k3 := k2.trans (Pk.slot k2.al hi2 (x + 3) (v2.mono (Nat.le_refl _) (Nat.le_refl _) (by rw [k2.th]; exact Nat.le_refl _)))
    have hi3 := Nat.lt_of_lt_of_eq hi k3.th.symm
    refine PO.ok (k3.trans (Pk.push k3.al hi3 ?_ (bool_okV _ _)))
    rw [k3.pf r4, k3.f]
    have l : ∀ {K : Mc} (hK : i < K.th.length) (y : Nat) (v : V), ((setSlot K i y v).t i).sk.length = (K.t i).sk.length := by
      intro K hK y v
      unfold setSlot
      rw [t_setT hK]
      exact List.length_set
    rw [l hi2, l hi1, l hi]
    exact h1 h30
/-- A plain instruction keeps the invariant. -/
theorem plain_keeps (hA : Alive M (some i)) (hi : i < M.th.length) (op x : Nat) (ht : testP M i op x = true) (hj : op < 21 ∨ op = 25 ∨ 28 ≤ op) : PO M i (plainP M i op x) := by
  obtain ⟨r1, r2, r3, r4, r5, r6, r7⟩ := hA.runs hi
  unfold testP at ht
  simp only [Bool.and_eq_true, decide_eq_true_eq] at ht
  obtain ⟨hs, hn, hg⟩ := ht
  have kk : x < (M.p (M.t i).f.clo).nk → okV M (M.ks[(M.p (M.t i).f.clo).k + x]?.getD nilV) := by
    intro h
    have hw := (hA.st.win _ (hA.prc r4)).2.1
    rw [List.getElem?_eq_getElem (by omega)]
    exact hA.va.ks _ (List.getElem_mem _)
  have k1 : (M.t i).f.base + (M.p (M.t i).f.clo).ns + 1 ≤ (M.t i).sk.length → Pk M i (dropP M i) := Pk.drop hA hi
  have l1 := drop_skl (M := M) hi
  have up1 : ∀ {K K' : Mc} {v : V}, okV K v → Pk K i K' → K.tb.length ≤ K'.tb.length → okV K' v := fun hv hk ht => hv.mono ht hk.cs (by rw [hk.th]; exact Nat.le_refl _)
  have k2 : (M.t i).f.base + (M.p (M.t i).f.clo).ns + 2 ≤ (M.t i).sk.length → Pk M i (dropP (dropP M i) i) := fun h => by
    have q := k1 (by omega)
    exact q.trans (Pk.drop q.al (by rw [q.th]; exact hi) (by rw [q.pf r4, q.f, l1]; omega))
  have l2 : ((dropP (dropP M i) i).t i).sk.length = (M.t i).sk.length - 1 - 1 := by
    rw [drop_skl (M := dropP M i) (by rw [show (dropP M i).th.length = M.th.length from th_setT M i _]; exact hi), l1]
  have k3 : (M.t i).f.base + (M.p (M.t i).f.clo).ns + 3 ≤ (M.t i).sk.length → Pk M i (dropP (dropP (dropP M i) i) i) := fun h => by
    have q := k2 (by omega)
    exact q.trans (Pk.drop q.al (by rw [q.th]; exact hi) (by rw [q.pf r4, q.f, l2]; omega))
  have v1 : 1 ≤ (M.t i).sk.length → okV M (topP M i) := hA.topV hi
  have v2 : (M.t i).f.base + (M.p (M.t i).f.clo).ns + 2 ≤ (M.t i).sk.length → okV M (topP (dropP M i) i) := fun h => by
    have q := k1 (by omega)
    have := q.al.topV (by rw [q.th]; exact hi) (by rw [l1]; omega)
    exact this.mono (Nat.le_refl _) (Nat.le_refl _) (by rw [q.th]; exact Nat.le_refl _)
  have v3 : (M.t i).f.base + (M.p (M.t i).f.clo).ns + 3 ≤ (M.t i).sk.length → okV M (topP (dropP (dropP M i) i) i) := fun h => by
    have q := k2 (by omega)
    have := q.al.topV (by rw [q.th]; exact hi) (by rw [l2]; omega)
    exact this.mono (Nat.le_refl _) (Nat.le_refl _) (by rw [q.th]; exact Nat.le_refl _)
  by_cases h0 : op = 0
  · subst h0
    exfalso
    revert hs
    unfold soundP
    simp
  by_cases h33 : 33 ≤ op
  · exfalso
    unfold soundP at hs
    simp only at hs
    rw [if_neg (by omega), if_neg (by omega), if_neg (by omega), if_neg (by omega), if_neg (by omega), if_neg (by omega), if_neg (by omega), if_neg (by omega), if_neg (by omega), if_neg (by omega), if_neg (by omega)] at hs
    simp only [Bool.and_eq_true, decide_eq_true_eq] at hs
    omega
  rcases (by omega : op = 1 ∨ op = 2 ∨ op = 3 ∨ op = 4 ∨ op = 5 ∨ op = 6 ∨ op = 7 ∨ op = 8 ∨ op = 9 ∨ op = 10 ∨ op = 11 ∨ op = 12 ∨ op = 13 ∨ op = 14 ∨ (15 ≤ op ∧ op ≤ 20) ∨ op = 25 ∨ op = 28 ∨ op = 29 ∨ op = 30 ∨ (op = 31 ∨ op = 32)) with rfl | rfl | rfl | rfl | rfl | rfl | rfl | rfl | rfl | rfl | rfl | rfl | rfl | rfl | h | rfl | rfl | rfl | rfl | h
  · simp [soundP] at hs
    simp [effP] at hg
    exact PO.ok (Pk.push hA hi (by omega) (kk hs))
  · simp [effP] at hg
    exact PO.ok (Pk.push hA hi (by omega) (nil_okV _))
  · simp [effP] at hg
    exact PO.ok (Pk.push hA hi (by omega) (bool_okV _ _))
  · simp [effP] at hg
    exact PO.ok (Pk.push hA hi (by omega) (bool_okV _ _))
  · simp [soundP] at hs
    simp [effP] at hg
    exact PO.ok (Pk.push hA hi (by omega) (hA.at hi (by omega)))
  · simp [effP] at hn
    have q := k1 (by omega)
    exact PO.ok (q.trans (Pk.slot q.al (by rw [q.th]; exact hi) x (up1 (v1 (by omega)) q (Nat.le_refl _))))
  · simp [soundP] at hs
    simp [effP] at hg
    exact PO.ok (Pk.push hA hi (by omega) (hA.upV r4 hs))
  · simp [soundP] at hs
    simp [effP] at hn
    have q := k1 (by omega)
    exact PO.ok (q.trans (Pk.setUp q.al (by rw [q.th]; exact hi) (c := (M.t i).f.clo) (x := x) r4 hs (up1 (v1 (by omega)) q (Nat.le_refl _))))
  · simp [effP] at hg
    exact PO.ok (Pk.push hA hi (by omega) (getP_okV hA.va.tb _ _))
  · simp [soundP] at hs
    simp [effP] at hn
    have q := k1 (by omega)
    exact PO.store q 0 (up1 (kk hs.1) q (Nat.le_refl _)) (up1 (v1 (by omega)) q (Nat.le_refl _))
  · simp [effP] at hn hg
    have q := k2 (by omega)
    show PO M i (if _ then _ else _)
    split
    · exact PO.thr q (by unfold errs; simp)
    · exact PO.ok (q.trans (Pk.push q.al (by rw [q.th]; exact hi) (by rw [q.pf r4, q.f, l2]; omega) (up1 (getP_okV hA.va.tb _ _) q (Nat.le_refl _))))
  · simp [effP] at hn
    have q := k3 (by omega)
    show PO M i (if _ then _ else _)
    split
    · exact PO.thr q (by unfold errs; simp)
    · exact PO.store q _ (up1 (v2 (by omega)) q (Nat.le_refl _)) (up1 (v1 (by omega)) q (Nat.le_refl _))
  · simp [effP] at hn
    have q := k1 (by omega)
    show PO M i (if _ then _ else _)
    split
    · exact PO.thr q (by unfold errs; simp)
    · exact PO.store q _ ((fl_good _).okV _ (fl_lt _)) (up1 (v1 (by omega)) q (Nat.le_refl _))
  · simp [effP] at hg
    show PO M i (if _ then _ else _)
    split
    · exact PO.trp (Pk.refl hA)
    · rename_i hm
      have hlt : ¬ 12 ≤ M.tb.length := by
        intro h
        apply hm
        unfold makeP
        rw [if_pos h]
        show (8 : Int) ≠ 0
        decide
      have em : (makeP M.tb).2.2 = M.tb ++ [[]] := by unfold makeP; rw [if_neg hlt]
      rw [em]
      have kt : Pk M i { M with tb := M.tb ++ [[]] } := Pk.tabs hA _ (by simp) (by simp; omega) (by
        intro t ht e he
        rcases List.mem_append.1 ht with g | g
        · exact hA.va.tb t g e he
        · rw [List.mem_singleton] at g
          rw [g] at he
          simp at he)
      refine PO.ok (kt.trans (Pk.push kt.al hi ?_ ?_))
      · show (M.t i).sk.length + 1 ≤ (M.t i).f.base + (M.p (M.t i).f.clo).ns + 128
        omega
      · have : M.tb.length ≤ 12 := by omega
        refine ⟨?_, by show M.tb.length < _; omega⟩
        show validP { M with tb := M.tb ++ [[]] } ⟨4, M.tb.length, []⟩ = true
        unfold validP wfB
        simp
        omega
  · have e : plainP M i op x = operP M i op x := by
      unfold plainP
      simp only
      rw [if_neg (by omega), if_neg (by omega), if_neg (by omega), if_neg (by omega), if_neg (by omega), if_neg (by omega), if_neg (by omega), if_neg (by omega), if_neg (by omega), if_neg (by omega), if_neg (by omega), if_neg (by omega), if_neg (by omega), if_neg (by omega), if_neg (by omega), if_neg (by omega), if_neg (by omega), if_neg (by omega)]
    rw [e]
    refine oper_keeps hA hi op x ?_ ?_ h
    · rcases (by omega : op = 15 ∨ op = 16 ∨ op = 17 ∨ op = 18 ∨ op = 19 ∨ op = 20) with rfl | rfl | rfl | rfl | rfl | rfl <;> (simp [effP] at hn; omega)
    · rintro (rfl | rfl | rfl) <;> (simp [effP] at hn; omega)
  · simp [effP] at hn
    exact PO.ok (k1 (by omega))
  · simp [effP] at hg
    show PO M i ((closP M i x).then () (fun M c => ok (pushP M i [⟨5, c, []⟩]) ()))
    by_cases h24 : M.cs.length < 24
    · obtain ⟨c1, c2, c3, c4, c5, c6, c7, c8, c9, c10⟩ := hA.clos hi hs h24
      have kt : Pk M i (closP M i x).M := ⟨c1, c7, c8, c9, c5, by omega, c10⟩
      unfold Ou.then
      rw [if_pos c2]
      refine PO.ok (kt.trans (Pk.push kt.al (by rw [c5]; exact hi) ?_ ?_))
      · rw [kt.pf r4, kt.f, c6]
        omega
      · rw [c3]
        refine ⟨?_, by show M.cs.length < _; omega⟩
        unfold validP wfB
        simp
        omega
    · have e : closP M i x = trp M 0 8 := by unfold closP; rw [if_pos (by omega)]
      rw [e]
      exact PO.trp (Pk.refl hA)
  · exact PO.ok (Pk.close hA hi _)
  · exact for_keeps hA hi 30 x (fun h => absurd rfl h)
  · have e : plainP M i op x = forP M i op x := by
      unfold plainP
      simp only
      rw [if_neg (by omega), if_neg (by omega), if_neg (by omega), if_neg (by omega), if_neg (by omega), if_neg (by omega), if_neg (by omega), if_neg (by omega), if_neg (by omega), if_neg (by omega), if_neg (by omega), if_neg (by omega), if_neg (by omega), if_neg (by omega), if_neg (by omega), if_neg (by omega), if_neg (by omega), if_pos (by omega)]
    rw [e]
    refine for_keeps hA hi op x (fun _ => ?_)
    rcases h with rfl | rfl <;> (simp [effP] at hg; omega)
end
end Go.Proofs.Qxb6500293aGreatRR
