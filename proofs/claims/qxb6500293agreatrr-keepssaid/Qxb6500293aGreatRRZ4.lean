/-
  THE MACHINE, PLAIN: one round of the dispatch loop keeps the invariant and lowers the measure.
-/
import Derived.Test.Qxb6500293aGreatRRZ3
namespace Go.Proofs.Qxb6500293aGreatRR
open Ieee (double)
set_option linter.unusedVariables false
set_option linter.unusedSimpArgs false

theorem sum_set' {α : Type} (φ : α → Nat) (l : List α) (j : Nat) (a b : α) (h : l[j]? = some a) : ((l.set j b).map φ).sum + φ a = (l.map φ).sum + φ b := by
  induction l generalizing j with
  | nil => simp at h
  | cons c r ih =>
    cases j with
    | zero =>
      simp at h
      subst h
      simp
      omega
    | succ j =>
      have := ih j (by simpa using h)
      simp only [List.set_cons_succ, List.map_cons, List.sum_cons]
      omega
theorem sum_take {α : Type} (φ : α → Nat) (l : List α) (n : Nat) : ((l.take n).map φ).sum ≤ (l.map φ).sum := by
  conv => rhs; rw [← List.take_append_drop n l, List.map_append, List.sum_append]
  omega
theorem sum_take_lt {α : Type} (φ : α → Nat) (l : List α) (n : Nat) (hn : n < l.length) (h : ∀ a, 1 ≤ φ a) : ((l.take n).map φ).sum < (l.map φ).sum := by
  conv => rhs; rw [← List.take_append_drop n l, List.map_append, List.sum_append]
  have : l.drop n = l[n] :: l.drop (n + 1) := by rw [List.drop_eq_getElem_cons hn]
  rw [this, List.map_cons, List.sum_cons]
  have := h l[n]
  omega
theorem sum_bound {α : Type} (φ : α → Nat) (l : List α) (B : Nat) (h : ∀ a ∈ l, φ a ≤ B) : (l.map φ).sum ≤ l.length * B := by
  induction l with
  | nil => simp
  | cons c r ih =>
    have h1 := h c (List.mem_cons_self ..)
    have h2 := ih fun a ha => h a (List.mem_cons_of_mem _ ha)
    simp
    rw [Nat.add_mul, Nat.one_mul]
    omega
/-- The measure of a thread's frames. -/
def left (M : Mc) (f : Fr) : Nat := (M.p f.clo).nc - f.pc + 1
def measF (M : Mc) (i : Nat) : Nat := ((M.t i).fr.map (left M)).sum
def meas (M : Mc) (i : Nat) : Nat := M.fuel * 1048576 + measF M i
theorem Alive.meas_lt {M : Mc} {run : Option Nat} {sl i : Nat} (h : Alive M run sl) (hi : i < M.th.length) : measF M i ≤ 524288 := by
  have ht := h.th i hi
  have := sum_bound (left M) (M.t i).fr 65536 (by
    intro f hf
    obtain ⟨j, hj, rfl⟩ := List.getElem_of_mem hf
    have hc := (ht.frs j _ (List.getElem?_eq_getElem hj)).clo
    have := (h.st.each _ (h.prc hc)).2.2.2.2
    unfold left
    omega)
  have h8 := ht.fr8
  have : (M.t i).fr.length * 65536 ≤ 8 * 65536 := Nat.mul_le_mul_right _ h8
  unfold measF
  omega
theorem meas_burnt {M M' : Mc} {i : Nat} (h : Alive M' (some i)) (hi : i < M'.th.length) (hf : M'.fuel + 1 ≤ M.fuel) : meas M' i < meas M i := by
  have := h.meas_lt hi
  unfold meas
  have : (M'.fuel + 1) * 1048576 ≤ M.fuel * 1048576 := Nat.mul_le_mul_right _ hf
  omega
theorem left_same {M M' : Mc} {l : List Fr} (h : ∀ f ∈ l, M'.p f.clo = M.p f.clo) : l.map (left M') = l.map (left M) := by
  apply List.map_congr_left
  intro f hf
  unfold left
  rw [h f hf]
theorem Alive.fr_clo {M : Mc} {run : Option Nat} {sl i : Nat} (h : Alive M run sl) (hi : i < M.th.length) : ∀ f ∈ (M.t i).fr, f.clo < M.cs.length := by
  intro f hf
  obtain ⟨j, hj, rfl⟩ := List.getElem_of_mem hf
  exact ((h.th i hi).frs j _ (List.getElem?_eq_getElem hj)).clo
theorem Pk.meas {M M' : Mc} {i : Nat} (h : Pk M i M') (hA : Alive M (some i)) (hi : i < M.th.length) : meas M' i = meas M i := by
  unfold Go.Proofs.Qxb6500293aGreatRR.meas measF
  rw [h.fuel, h.fr, left_same (fun f hf => h.p _ (hA.fr_clo hi f hf))]
theorem meas_pc {M : Mc} {i : Nat} (hA : Alive M (some i)) (hi : i < M.th.length) {x : Nat} (h1 : (M.t i).f.pc < x) (h2 : x ≤ (M.p (M.t i).f.clo).nc) : meas (setPc M i x) i < meas M i := by
  obtain ⟨r1, r2, r3, r4, r5, r6, r7⟩ := hA.runs hi
  have e : ((setPc M i x).t i).fr = (M.t i).fr.set ((M.t i).fr.length - 1) { (M.t i).f with pc := x } := by
    unfold setPc
    rw [t_setT hi]
    rfl
  unfold meas measF
  rw [e]
  have := sum_set' (left M) (M.t i).fr ((M.t i).fr.length - 1) (M.t i).f { (M.t i).f with pc := x } (Th.f_at r2)
  have e2 : (setPc M i x).fuel = M.fuel := rfl
  rw [e2]
  have e3 : left (setPc M i x) = left M := rfl
  rw [e3]
  have e4 : left M { (M.t i).f with pc := x } + 1 ≤ left M (M.t i).f := by
    show (M.p (M.t i).f.clo).nc - x + 1 + 1 ≤ (M.p (M.t i).f.clo).nc - (M.t i).f.pc + 1
    omega
  omega
/-- What an event says of the threads. -/
structure EvOk (M : Mc) (i : Nat) (x : Ev) : Prop where
  k : 1 ≤ x.K ∧ x.K ≤ 4
  e : x.E = 0
  v : okV M x.v
  w : okV M x.w
  dead : x.K = 1 ∨ x.K = 2 → (M.t i).st = 5
  yield : x.K = 3 → (M.t i).st = 2 ∧ i ≠ 0
  h : x.K ≠ 4 → x.h = 0
  resume : x.K = 4 → (M.t i).st = 3 ∧ 1 ≤ x.h ∧ x.h < M.th.length ∧ x.h ≠ i ∧ ((M.t x.h).st = 1 ∨ (M.t x.h).st = 2)
structure SK (M : Mc) (i : Nat) (o : Ou Ev) : Prop where
  k : o.k = 0 ∨ o.k = 2 ∨ o.k = 3
  run : ¬ (o.k = 0 ∧ o.x.K ≠ 0) → Alive o.M (some i)
  ev : o.k = 0 → o.x.K ≠ 0 → Alive o.M none ∧ EvOk o.M i o.x
  thr : o.k = 2 → okV o.M o.v
  trp : o.k = 3 → o.e = 8 ∨ o.e = 9 ∨ o.e = 10 ∨ o.e = 11
  th : M.th.length ≤ o.M.th.length
  fuel : o.M.fuel ≤ M.fuel
  out : ∃ l, o.M.out = M.out ++ l
  dec0 : o.k = 0 → o.x.K = 0 → meas o.M i < meas M i
  dec2 : o.k = 2 → meas o.M i ≤ meas M i
  quiet : M.fuel = 0 → o.M.out = M.out ∧ (o.k = 0 → o.x.K = 0 ∨ o.x.K = 1) ∧ (o.k = 2 → o.v ∈ errs)
section
variable {M : Mc} {i : Nat}
theorem SK.code (hA : Alive M (some i)) : SK M i (Go.Proofs.Qxb6500293aGreatRR.trp M noEv 11) :=
  ⟨.inr (.inr rfl), fun _ => hA, fun e => absurd (show (3 : Nat) = 0 from e) (by decide), fun e => absurd (show (3 : Nat) = 2 from e) (by decide), fun _ => .inr (.inr (.inr rfl)), Nat.le_refl _, Nat.le_refl _, ⟨[], by simp [Go.Proofs.Qxb6500293aGreatRR.trp]⟩, fun e => absurd (show (3 : Nat) = 0 from e) (by decide), fun e => absurd (show (3 : Nat) = 2 from e) (by decide), fun _ => ⟨rfl, fun e => absurd (show (3 : Nat) = 0 from e) (by decide), fun e => absurd (show (3 : Nat) = 2 from e) (by decide)⟩⟩
theorem SK.fuelOut (hA : Alive M (some i)) : SK M i ⟨3, M, noEv, nilV, 9⟩ :=
  ⟨.inr (.inr rfl), fun _ => hA, fun e => absurd (show (3 : Nat) = 0 from e) (by decide), fun e => absurd (show (3 : Nat) = 2 from e) (by decide), fun _ => .inr (.inl rfl), Nat.le_refl _, Nat.le_refl _, ⟨[], by simp⟩, fun e => absurd (show (3 : Nat) = 0 from e) (by decide), fun e => absurd (show (3 : Nat) = 2 from e) (by decide), fun _ => ⟨rfl, fun e => absurd (show (3 : Nat) = 0 from e) (by decide), fun e => absurd (show (3 : Nat) = 2 from e) (by decide)⟩⟩
theorem SK.go {M' : Mc} (h : Alive M' (some i)) (hth : M.th.length ≤ M'.th.length) (hf : M'.fuel ≤ M.fuel) (ho : M'.out = M.out) (hd : meas M' i < meas M i) : SK M i (ok M' noEv) :=
  ⟨.inl rfl, fun _ => h, fun _ e => absurd rfl e, fun e => absurd (show (0 : Nat) = 2 from e) (by decide), fun e => absurd (show (0 : Nat) = 3 from e) (by decide), hth, hf, ⟨[], by rw [List.append_nil]; exact ho⟩, fun _ _ => hd, fun e => absurd (show (0 : Nat) = 2 from e) (by decide), fun _ => ⟨ho, fun _ => .inl rfl, fun e => absurd (show (0 : Nat) = 2 from e) (by decide)⟩⟩
theorem SK.pre {M0 : Mc} {o : Ou Ev} (h : Pk M0 i M) (hA : Alive M0 (some i)) (hi : i < M0.th.length) (g : SK M i o) : SK M0 i o :=
  ⟨g.k, g.run, g.ev, g.thr, g.trp, by have := g.th; rw [h.th] at this; exact this, by have := g.fuel; rw [h.fuel] at this; exact this, by have := g.out; rw [h.out] at this; exact this, fun a b => by have := g.dec0 a b; rw [h.meas hA hi] at this; exact this, fun a => by have := g.dec2 a; rw [h.meas hA hi] at this; exact this, fun a => by rw [← h.fuel] at a; have := g.quiet a; rw [h.out] at this; exact this⟩
theorem plain_step (hA : Alive M (some i)) (hi : i < M.th.length) {o : Ou Unit} (h : PO M i o) (hpc : (M.t i).f.pc < (M.p (M.t i).f.clo).nc) : SK M i (o.then noEv fun M _ => ok (pc1 M i) noEv) := by
  obtain ⟨r1, r2, r3, r4, r5, r6, r7⟩ := hA.runs hi
  obtain ⟨h1, h2, h3, h4⟩ := h
  unfold Ou.then
  by_cases h0 : o.k = 0
  · rw [if_pos h0]
    have e1 := h2.f
    have e2 := h2.pf r4
    have hi' : i < o.M.th.length := by rw [h2.th]; exact hi
    refine SK.go (h2.al.setPc hi' _ (by rw [e2, e1]; omega)) (by show _ ≤ (o.M.setT i _).th.length; rw [th_setT, h2.th]; exact Nat.le_refl _) (by show o.M.fuel ≤ _; rw [h2.fuel]; exact Nat.le_refl _) h2.out ?_
    rw [← h2.meas hA hi]
    exact meas_pc h2.al hi' (by omega) (by rw [e2, e1]; omega)
  · rw [if_neg h0]
    refine ⟨h1, fun _ => h2.al, fun e => absurd e h0, fun e => errs_okV (h3 e), fun e => .inl (h4 e), by rw [h2.th]; exact Nat.le_refl _, by rw [h2.fuel]; exact Nat.le_refl _, ⟨[], by rw [List.append_nil]; exact h2.out⟩, fun e => absurd e h0, fun _ => by rw [← h2.meas hA hi]; exact Nat.le_refl _, fun _ => ⟨h2.out, fun e => absurd e h0, h3⟩⟩
theorem jump_step (hA : Alive M (some i)) (hi : i < M.th.length) {x : Nat} (hx : x < (M.p (M.t i).f.clo).nc) : SK M i ((jumpP M i x).then noEv fun M _ => ok M noEv) := by
  obtain ⟨r1, r2, r3, r4, r5, r6, r7⟩ := hA.runs hi
  unfold jumpP
  by_cases hle : x ≤ (M.t i).f.pc
  · rw [if_pos hle]
    unfold burnP
    by_cases h0 : M.fuel = 0
    · rw [if_pos h0]
      exact SK.fuelOut hA
    · rw [if_neg h0]
      have hF : Alive { M with fuel := M.fuel - 1 } (some i) := hA.fuel (by omega)
      have hG : Alive (setPc { M with fuel := M.fuel - 1 } i x) (some i) := hF.setPc (i := i) hi x (Nat.le_of_lt hx)
      have hth : (setPc { M with fuel := M.fuel - 1 } i x).th.length = M.th.length := th_setT _ _ _
      exact SK.go (M' := setPc { M with fuel := M.fuel - 1 } i x) hG (by rw [hth]; exact Nat.le_refl _) (Nat.sub_le _ _) rfl (meas_burnt hG (by rw [hth]; exact hi) (by show M.fuel - 1 + 1 ≤ M.fuel; omega))
  · rw [if_neg hle]
    have hth : (setPc M i x).th.length = M.th.length := th_setT _ _ _
    exact SK.go (M' := setPc M i x) (hA.setPc hi x (Nat.le_of_lt hx)) (by rw [hth]; exact Nat.le_refl _) (Nat.le_refl _) rfl (meas_pc hA hi (by omega) (Nat.le_of_lt hx))
/-! ### unwinding -/
theorem kill_t {K : Mc} (hi : i < K.th.length) : (killP K i).th.length = K.th.length ∧ ((killP K i).t i).st = 5 ∧ (killP K i).fuel = K.fuel ∧ (killP K i).out = K.out ∧ (killP K i).tb = K.tb ∧ (killP K i).cs = K.cs := by
  have h1 : (closeP K i 0).th.length = K.th.length := th_setT K i _
  refine ⟨?_, ?_, rfl, rfl, rfl, rfl⟩
  · show ((closeP K i 0).setT i _).th.length = _
    rw [th_setT, h1]
  · show (((closeP K i 0).setT i _).t i).st = 5
    rw [t_setT (by rw [h1]; exact hi)]
theorem close_fr {K : Mc} (hi : i < K.th.length) (b : Nat) : ((closeP K i b).t i).fr = (K.t i).fr ∧ ((closeP K i b).t i).sk = (K.t i).sk := by
  constructor
  · show ((K.setT i _).t i).fr = _
    rw [t_setT hi]
  · show ((K.setT i _).t i).sk = _
    rw [t_setT hi]
structure UnOk (M : Mc) (i : Nat) (v : V) (r : Mc × Ev × Bool) : Prop where
  th : r.1.th.length = M.th.length
  fuel : r.1.fuel = M.fuel
  out : r.1.out = M.out
  on : r.2.2 = false → Alive r.1 (some i) ∧ meas r.1 i < meas M i
  off : r.2.2 = true → Alive r.1 none ∧ EvOk r.1 i r.2.1 ∧ r.2.1 = ⟨2, 0, 0, v, nilV⟩
theorem unwF_ok (hA : Alive M (some i)) (hi : i < M.th.length) {v : V} (hv : okV M v) : ∀ n, n < (M.t i).fr.length → UnOk M i v (unwF M i v n)
  | 0, hn => by
    obtain ⟨k1, k2, k3, k4, k5, k6⟩ := kill_t (K := M) hi
    refine ⟨k1, k3, k4, fun e => (by cases e), fun _ => ⟨hA.kill hi, ?_, rfl⟩⟩
    exact ⟨⟨by show 1 ≤ 2; omega, by show 2 ≤ 4; omega⟩, rfl, hv.mono (by rw [show (unwF M i v 0).1.tb = M.tb from k5]; exact Nat.le_refl _) (by rw [show (unwF M i v 0).1.cs = M.cs from k6]; exact Nat.le_refl _) (by rw [show (unwF M i v 0).1.th.length = M.th.length from k1]; exact Nat.le_refl _), nil_okV _, fun _ => k2, fun e => absurd (show 2 = 3 from e) (by omega), fun _ => rfl, fun e => absurd (show 2 = 4 from e) (by omega)⟩
  | n + 1, hn => by
    unfold unwF
    by_cases hp : ((M.t i).fr[n + 1]?.getD dF).prot = true
    · rw [if_pos hp]
      simp only
      have hf : (M.t i).fr[n + 1]? = some ((M.t i).fr[n + 1]?.getD dF) := at_some hn
      generalize hfe : (M.t i).fr[n + 1]?.getD dF = f at *
      obtain ⟨c1, c2⟩ := hA.close hi f.base
      have hth : (closeP M i f.base).th.length = M.th.length := th_setT M i _
      have hi1 : i < (closeP M i f.base).th.length := by rw [hth]; exact hi
      obtain ⟨d1, d2⟩ := close_fr (K := M) hi f.base
      have hA2 := c1.popF hi1 (n := n + 1) (f := f) (by rw [d1]; exact hf) (by omega) c2 (bool_okV _ false) (s := v) (hv.mono (Nat.le_refl _) (Nat.le_refl _) (by rw [hth]; exact Nat.le_refl _))
      refine ⟨by show ((closeP M i f.base).setT i _).th.length = _; rw [th_setT, hth], rfl, rfl, fun _ => ⟨hA2, ?_⟩, fun e => (by cases e)⟩
      show meas ((closeP M i f.base).setT i _) i < _
      unfold meas measF
      rw [t_setT hi1]
      show M.fuel * 1048576 + ((((closeP M i f.base).t i).fr.take (n + 1)).map (left M)).sum < _
      rw [d1]
      have := sum_take_lt (left M) (M.t i).fr (n + 1) hn (fun f => by unfold left; omega)
      omega
    · rw [if_neg hp]
      exact unwF_ok hA hi hv n (by omega)
theorem unwP_ok (hA : Alive M (some i)) (hi : i < M.th.length) {v : V} (hv : okV M v) : UnOk M i v (unwP M i v) := by
  have := (hA.runs hi).2.1
  exact unwF_ok hA hi hv _ (by omega)
/-! ### IRET -/
theorem ret_step (hA : Alive M (some i)) (hi : i < M.th.length) (h2 : (M.t i).f.base + (M.p (M.t i).f.clo).ns + 2 ≤ (M.t i).sk.length) : SK M i (ok (retP M i).1 (retP M i).2) := by
  obtain ⟨r1, r2, r3, r4, r5, r6, r7⟩ := hA.runs hi
  have k1 := Pk.drop hA hi (by omega)
  have hi1 : i < (dropP M i).th.length := by rw [k1.th]; exact hi
  have l1 := drop_skl (M := M) hi
  have k2 := k1.trans (Pk.drop k1.al hi1 (by rw [k1.pf r4, k1.f, l1]; omega))
  have hi2 : i < (dropP (dropP M i) i).th.length := by rw [k2.th]; exact hi
  have vw := hA.topV hi (by omega)
  have vv : okV M (topP (dropP M i) i) := (k1.al.topV hi1 (by rw [l1]; omega)).mono (Nat.le_refl _) (Nat.le_refl _) (by rw [k1.th]; exact Nat.le_refl _)
  unfold retP
  simp only
  by_cases h1 : (M.t i).fr.length = 1
  · rw [if_pos h1]
    obtain ⟨q1, q2, q3, q4, q5, q6⟩ := kill_t (K := dropP (dropP M i) i) hi2
    have om : ∀ {v : V}, okV M v → okV (killP (dropP (dropP M i) i) i) v := fun hv => hv.mono (by rw [q5]; exact Nat.le_refl _) (by rw [q6]; exact Nat.le_refl _) (by rw [q1, k2.th]; exact Nat.le_refl _)
    refine ⟨.inl rfl, fun e => absurd ⟨rfl, by show (1 : Nat) ≠ 0; decide⟩ e, fun _ _ => ⟨k2.al.kill hi2, ⟨⟨by show 1 ≤ 1; omega, by show 1 ≤ 4; omega⟩, rfl, om vv, om vw, fun _ => q2, fun e => absurd (show 1 = 3 from e) (by omega), fun _ => rfl, fun e => absurd (show 1 = 4 from e) (by omega)⟩⟩, fun e => absurd (show (0 : Nat) = 2 from e) (by decide), fun e => absurd (show (0 : Nat) = 3 from e) (by decide), by show _ ≤ (killP _ i).th.length; rw [q1, k2.th]; exact Nat.le_refl _, by show (killP _ i).fuel ≤ _; rw [q3, k2.fuel]; exact Nat.le_refl _, ⟨[], by rw [List.append_nil]; show (killP _ i).out = _; rw [q4, k2.out]⟩, fun _ e => absurd (show (1 : Nat) = 0 from e) (by decide), fun e => absurd (show (0 : Nat) = 2 from e) (by decide), fun _ => ⟨by show (killP _ i).out = _; rw [q4, k2.out], fun _ => .inr rfl, fun e => absurd (show (0 : Nat) = 2 from e) (by decide)⟩⟩
  · rw [if_neg h1]
    obtain ⟨c1, c2⟩ := k2.al.close hi2 (M.t i).f.base
    have hth : (closeP (dropP (dropP M i) i) i (M.t i).f.base).th.length = M.th.length := by
      rw [show (closeP (dropP (dropP M i) i) i (M.t i).f.base).th.length = (dropP (dropP M i) i).th.length from th_setT _ i _, k2.th]
    have hi3 : i < (closeP (dropP (dropP M i) i) i (M.t i).f.base).th.length := by rw [hth]; exact hi
    obtain ⟨d1, d2⟩ := close_fr (K := dropP (dropP M i) i) hi2 (M.t i).f.base
    generalize hK : closeP (dropP (dropP M i) i) i (M.t i).f.base = K at *
    have dfr : (K.t i).fr = (M.t i).fr := d1.trans k2.fr
    have ofuel : K.fuel = M.fuel := by rw [← hK]; exact k2.fuel
    have oout : K.out = M.out := by rw [← hK]; exact k2.out
    have ocs : K.cs = M.cs := by rw [← hK]; rfl
    have otb : K.tb = M.tb := by rw [← hK]; rfl
    have op : K.p = M.p := by rw [← hK]; rfl
    have om : ∀ {v : V}, okV M v → okV K v := fun hv => hv.mono (by rw [otb]; exact Nat.le_refl _) (by rw [ocs]; exact Nat.le_refl _) (by rw [hth]; exact Nat.le_refl _)
    have hf : (K.t i).fr[(M.t i).fr.length - 1]? = some (M.t i).f := by rw [dfr]; exact Th.f_at r2
    have key : ∀ (r s : V), okV K r → okV K s → SK M i (ok ((pushP (cutP K i (M.t i).f.ret) i [r, s]).setT i { (pushP (cutP K i (M.t i).f.ret) i [r, s]).t i with fr := ((pushP (cutP K i (M.t i).f.ret) i [r, s]).t i).fr.take ((M.t i).fr.length - 1) }) noEv) := by
      intro r s hr hs
      have hA2 := c1.popF hi3 hf (by omega) c2 hr hs
      have hic : i < (cutP K i (M.t i).f.ret).th.length := by show i < (K.setT i _).th.length; rw [th_setT]; exact hi3
      have et : (pushP (cutP K i (M.t i).f.ret) i [r, s]).t i = { K.t i with sk := (K.t i).sk.take (M.t i).f.ret ++ [r, s] } := by
        rw [push_t hic, cut_t hi3]
      have eM : (pushP (cutP K i (M.t i).f.ret) i [r, s]).setT i { (pushP (cutP K i (M.t i).f.ret) i [r, s]).t i with fr := ((pushP (cutP K i (M.t i).f.ret) i [r, s]).t i).fr.take ((M.t i).fr.length - 1) } = K.setT i { K.t i with sk := (K.t i).sk.take (M.t i).f.ret ++ [r, s], fr := (K.t i).fr.take ((M.t i).fr.length - 1) } := by
        rw [et]
        unfold pushP cutP
        rw [setT_setT, setT_setT]
      rw [eM]
      refine SK.go hA2 (by rw [th_setT, hth]; exact Nat.le_refl _) (by show K.fuel ≤ _; rw [ofuel]; exact Nat.le_refl _) oout ?_
      unfold meas measF
      rw [t_setT hi3]
      have el : left (K.setT i { K.t i with sk := (K.t i).sk.take (M.t i).f.ret ++ [r, s], fr := (K.t i).fr.take ((M.t i).fr.length - 1) }) = left M := by
        funext f
        show (K.p f.clo).nc - f.pc + 1 = (M.p f.clo).nc - f.pc + 1
        rw [op]
      rw [el]
      show K.fuel * 1048576 + (((K.t i).fr.take ((M.t i).fr.length - 1)).map (left M)).sum < _
      rw [ofuel, dfr]
      have := sum_take_lt (left M) (M.t i).fr ((M.t i).fr.length - 1) (by omega) (fun f => by unfold left; omega)
      omega
    split
    · exact key _ _ (bool_okV _ _) (om vv)
    · exact key _ _ (om vv) (om vw)
/-! ### ICALL -/
/-- What a builtin leaves. -/
structure BO (M : Mc) (i : Nat) (o : Ou (V × V)) : Prop where
  k : o.k = 0 ∨ o.k = 2 ∨ o.k = 3
  al : Alive o.M (some i)
  t : o.M.t i = M.t i
  th : M.th.length ≤ o.M.th.length
  p : o.M.p = M.p
  fuel : o.M.fuel = M.fuel
  out : ∃ l, o.M.out = M.out ++ l
  v : okV o.M o.x.1 ∧ okV o.M o.x.2
  thr : o.k = 2 → okV o.M o.v
  trp : o.k = 3 → o.e = 8 ∨ o.e = 10
theorem BO.ok {r : V × V} (hA : Alive M (some i)) (h1 : okV M r.1) (h2 : okV M r.2) : BO M i (Go.Proofs.Qxb6500293aGreatRR.ok M r) :=
  ⟨.inl rfl, hA, rfl, Nat.le_refl _, rfl, rfl, ⟨[], by simp [Go.Proofs.Qxb6500293aGreatRR.ok]⟩, ⟨h1, h2⟩, fun e => absurd (show (0 : Nat) = 2 from e) (by decide), fun e => absurd (show (0 : Nat) = 3 from e) (by decide)⟩
theorem BO.thr' {v : V} (hA : Alive M (some i)) (h1 : okV M v) : BO M i (Go.Proofs.Qxb6500293aGreatRR.thr M (nilV, nilV) v) :=
  ⟨.inr (.inl rfl), hA, rfl, Nat.le_refl _, rfl, rfl, ⟨[], by simp [Go.Proofs.Qxb6500293aGreatRR.thr]⟩, ⟨nil_okV _, nil_okV _⟩, fun _ => h1, fun e => absurd (show (2 : Nat) = 3 from e) (by decide)⟩
theorem BO.trp' {e : Int} (hA : Alive M (some i)) (h1 : e = 8 ∨ e = 10) : BO M i (Go.Proofs.Qxb6500293aGreatRR.trp M (nilV, nilV) e) :=
  ⟨.inr (.inr rfl), hA, rfl, Nat.le_refl _, rfl, rfl, ⟨[], by simp [Go.Proofs.Qxb6500293aGreatRR.trp]⟩, ⟨nil_okV _, nil_okV _⟩, fun e => absurd (show (3 : Nat) = 2 from e) (by decide), fun _ => h1⟩
theorem okV.fun_lt {v : V} (h : okV M v) (h5 : v.T = 5) : v.N < M.cs.length := by
  have h1 := h.1
  unfold validP at h1
  rw [Bool.and_eq_true, if_neg (by omega), if_neg (by omega), if_pos h5] at h1
  exact of_decide_eq_true h1.2
theorem okV.co_lt {v : V} (h : okV M v) (h7 : v.T = 7) : v.N < M.th.length := by
  have h1 := h.1
  unfold validP at h1
  rw [Bool.and_eq_true, if_neg (by omega), if_neg (by omega), if_neg (by omega), if_pos h7] at h1
  exact of_decide_eq_true h1.2
theorem okV.wfb {v : V} (h : okV M v) : wfB v = true := by
  have h1 := h.1
  unfold validP at h1
  rw [Bool.and_eq_true] at h1
  exact h1.1
theorem stName_len (st : Nat) : (stName st).length ≤ 40 := by unfold stName; split <;> (try split) <;> (try split) <;> decide
theorem tyName_len (T : Int) : (tyName T).length ≤ 40 := by unfold tyName; repeat' split <;> try decide
theorem built_keeps (hA : Alive M (some i)) (hi : i < M.th.length) (b : Nat) {a0 a1 : V} (h0 : okV M a0) (h1 : okV M a1) : BO M i (builtP M b a0 a1) := by
  unfold builtP
  simp only
  split
  · split
    · exact BO.trp' hA (.inr rfl)
    · refine ⟨.inl rfl, hA.outp (textP a0) (by omega), rfl, Nat.le_refl _, rfl, rfl, ⟨textP a0 ++ [10], by simp [Go.Proofs.Qxb6500293aGreatRR.ok]⟩, ⟨nil_okV _, nil_okV _⟩, fun e => absurd (show (0 : Nat) = 2 from e) (by decide), fun e => absurd (show (0 : Nat) = 3 from e) (by decide)⟩
  split
  · exact BO.ok hA (str_okV _ (textP_len h0.wfb h0.2)) (nil_okV _)
  split
  · split
    · exact BO.ok hA h0 (nil_okV _)
    split
    · rename_i hp
      obtain ⟨p1, p2⟩ := parseP_good hp.2
      exact BO.ok hA (p1.okV M p2) (nil_okV _)
    · exact BO.ok hA (nil_okV _) (nil_okV _)
  split
  · exact BO.ok hA (str_okV _ (tyName_len _)) (nil_okV _)
  split
  · exact BO.thr' hA h0
  split
  · split
    · exact BO.thr' hA (str_okV _ (by decide))
    split
    · exact BO.thr' hA (str_okV _ (by decide))
    · exact BO.ok hA (nextP_okV hA.va.tb _ _).1 (nextP_okV hA.va.tb _ _).2
  split
  · split
    · exact BO.thr' hA (str_okV _ (by decide))
    rename_i h5
    split
    · exact BO.trp' hA (.inl rfl)
    · rename_i hl
      have hs := hA.spawn hi (h0.fun_lt (by omega)) (by omega)
      have hlen : (spawnP M a0.N).th.length = M.th.length + 1 := by show (M.th ++ [_]).length = _; simp
      refine ⟨.inl rfl, hs, ?_, by show _ ≤ (spawnP M a0.N).th.length; omega, rfl, rfl, ⟨[], by simp [Go.Proofs.Qxb6500293aGreatRR.ok]; rfl⟩, ⟨⟨?_, by show M.th.length < _; omega⟩, nil_okV _⟩, fun e => absurd (show (0 : Nat) = 2 from e) (by decide), fun e => absurd (show (0 : Nat) = 3 from e) (by decide)⟩
      · show (spawnP M a0.N).t i = _
        rw [spawn_t, if_neg (by omega)]
      · show validP (spawnP M a0.N) ⟨7, M.th.length, []⟩ = true
        unfold validP wfB
        simp
        omega
  · split
    · exact BO.thr' hA (str_okV _ (by decide))
    · exact BO.ok hA (str_okV _ (stName_len _)) (nil_okV _)
/-- What a call leaves, behind the burn and the step of pc. -/
structure CO (M : Mc) (i : Nat) (o : Ou Ev) : Prop where
  k : o.k = 0 ∨ o.k = 2 ∨ o.k = 3
  run : ¬ (o.k = 0 ∧ o.x.K ≠ 0) → Alive o.M (some i)
  ev : o.k = 0 → o.x.K ≠ 0 → Alive o.M none ∧ EvOk o.M i o.x
  thr : o.k = 2 → okV o.M o.v
  trp : o.k = 3 → o.e = 8 ∨ o.e = 9 ∨ o.e = 10 ∨ o.e = 11
  th : M.th.length ≤ o.M.th.length
  fuel : o.M.fuel = M.fuel
  out : ∃ l, o.M.out = M.out ++ l
theorem CO.go {M' : Mc} (h : Alive M' (some i)) (hth : M.th.length ≤ M'.th.length) (hf : M'.fuel = M.fuel) (ho : ∃ l, M'.out = M.out ++ l) : CO M i (ok M' noEv) :=
  ⟨.inl rfl, fun _ => h, fun _ e => absurd rfl e, fun e => absurd (show (0 : Nat) = 2 from e) (by decide), fun e => absurd (show (0 : Nat) = 3 from e) (by decide), hth, hf, ho⟩
theorem CO.thr' {v : V} (h : Alive M (some i)) (hv : okV M v) : CO M i (Go.Proofs.Qxb6500293aGreatRR.thr M noEv v) :=
  ⟨.inr (.inl rfl), fun _ => h, fun e => absurd (show (2 : Nat) = 0 from e) (by decide), fun _ => hv, fun e => absurd (show (2 : Nat) = 3 from e) (by decide), Nat.le_refl _, rfl, ⟨[], by simp [Go.Proofs.Qxb6500293aGreatRR.thr]⟩⟩
theorem cut_push {K : Mc} (hK : Alive K (some i)) (hi : i < K.th.length) {n : Nat} (h1 : (K.t i).f.base + (K.p (K.t i).f.clo).ns ≤ n) (h2 : n + 2 ≤ (K.t i).f.base + (K.p (K.t i).f.clo).ns + 128) (h3 : n ≤ (K.t i).sk.length) {r s : V} (hr : okV K r) (hs : okV K s) : Alive (pushP (cutP K i n) i [r, s]) (some i) := by
  have hc := hK.cut hi n h3 h1
  have hth : (cutP K i n).th.length = K.th.length := th_setT K i _
  have hi1 : i < (cutP K i n).th.length := by rw [hth]; exact hi
  have et := cut_t (M := K) hi n
  have om : ∀ {v : V}, okV K v → okV (cutP K i n) v := fun hv => hv.mono (Nat.le_refl _) (Nat.le_refl _) (by rw [hth]; exact Nat.le_refl _)
  refine hc.push hi1 [r, s] ?_ ?_
  · rw [et]
    show ((K.t i).sk.take n).length + 2 ≤ (K.t i).f.base + (K.p (K.t i).f.clo).ns + 128
    rw [List.length_take]
    omega
  · intro v hv
    simp only [List.mem_cons, List.not_mem_nil, or_false] at hv
    rcases hv with rfl | rfl
    · exact om hr
    · exact om hs
theorem arg_okV {l : List V} (h : ∀ v ∈ l, okV M v) (j : Nat) : okV M (l[j]?.getD nilV) := by
  by_cases hj : j < l.length
  · rw [List.getElem?_eq_getElem hj]
    exact h _ (List.getElem_mem hj)
  · rw [List.getElem?_eq_none (by omega)]
    exact nil_okV _
theorem callB_keeps (hA : Alive M (some i)) (hi : i < M.th.length) {x : Nat} (hx : x ≤ 3) (hpc : (M.t i).f.pc < (M.p (M.t i).f.clo).nc) (h1 : (M.t i).f.base + (M.p (M.t i).f.clo).ns + (x + 1) ≤ (M.t i).sk.length) (h2 : (M.t i).sk.length + 1 ≤ (M.t i).f.base + (M.p (M.t i).f.clo).ns + 128 + x) : CO M i (callB M i x) := by
  obtain ⟨r1, r2, r3, r4, r5, r6, r7⟩ := hA.runs hi
  have hK := hA.setPc hi ((M.t i).f.pc + 1) (by omega)
  have hth : (setPc M i ((M.t i).f.pc + 1)).th.length = M.th.length := th_setT M i _
  have hiK : i < (setPc M i ((M.t i).f.pc + 1)).th.length := by rw [hth]; exact hi
  have et : (setPc M i ((M.t i).f.pc + 1)).t i = (M.t i).setF { (M.t i).f with pc := (M.t i).f.pc + 1 } := t_setT hi _
  have eo : ∀ k, i ≠ k → (setPc M i ((M.t i).f.pc + 1)).t k = M.t k := fun k hk => t_setT_ne hk _
  have esk : ((setPc M i ((M.t i).f.pc + 1)).t i).sk = (M.t i).sk := by rw [et]; rfl
  have elen : ((setPc M i ((M.t i).f.pc + 1)).t i).fr.length = (M.t i).fr.length := by rw [et]; exact List.length_set
  have ef : ((setPc M i ((M.t i).f.pc + 1)).t i).f = { (M.t i).f with pc := (M.t i).f.pc + 1 } := by
    rw [et]
    unfold Th.f Th.setF
    simp only [List.length_set]
    rw [List.getElem?_set_self (by omega)]
    rfl
  have efu : (setPc M i ((M.t i).f.pc + 1)).fuel = M.fuel := rfl
  have eou : (setPc M i ((M.t i).f.pc + 1)).out = M.out := rfl
  have ecs : (setPc M i ((M.t i).f.pc + 1)).cs = M.cs := rfl
  have etb : (setPc M i ((M.t i).f.pc + 1)).tb = M.tb := rfl
  have ep : (setPc M i ((M.t i).f.pc + 1)).p = M.p := rfl
  have est : ((setPc M i ((M.t i).f.pc + 1)).t i).st = 4 := by rw [et]; exact r1
  have ebase : ((setPc M i ((M.t i).f.pc + 1)).t i).f.base = (M.t i).f.base := by rw [ef]
  have eclo : ((setPc M i ((M.t i).f.pc + 1)).t i).f.clo = (M.t i).f.clo := by rw [ef]
  have om : ∀ {v : V}, okV M v → okV (setPc M i ((M.t i).f.pc + 1)) v := fun hv => hv.mono (Nat.le_refl _) (Nat.le_refl _) (by rw [hth]; exact Nat.le_refl _)
  have vfn : okV M ((M.t i).sk[(M.t i).sk.length - x - 1]?.getD nilV) := hA.at hi (by omega)
  have vargs : ∀ v ∈ (M.t i).sk.drop ((M.t i).sk.length - x - 1 + 1), okV M v := fun v hv => hA.skV hi v (List.mem_of_mem_drop hv)
  have va0 := arg_okV vargs 0
  have va1 := arg_okV vargs 1
  unfold callB
  simp only
  generalize hfn : (M.t i).sk[(M.t i).sk.length - x - 1]?.getD nilV = fn at *
  generalize hargs : (M.t i).sk.drop ((M.t i).sk.length - x - 1 + 1) = args at *
  generalize args[0]?.getD nilV = a0 at *
  generalize args[1]?.getD nilV = a1 at *
  generalize setPc M i ((M.t i).f.pc + 1) = K at *
  have hcp : ∀ {r s : V}, okV K r → okV K s → CO M i (ok (pushP (cutP K i ((M.t i).sk.length - x - 1)) i [r, s]) noEv) := by
    intro r s hr hs
    refine CO.go (cut_push hK hiK (by rw [ebase, eclo, ep]; omega) (by rw [ebase, eclo, ep]; omega) (by rw [esk]; omega) hr hs) ?_ efu ⟨[], by rw [List.append_nil]; exact eou⟩
    show _ ≤ ((cutP K i _).setT i _).th.length
    rw [th_setT]
    show _ ≤ (K.setT i _).th.length
    rw [th_setT, hth]
    exact Nat.le_refl _
  have hen : ∀ {c : Nat} {az : List V} (prot : Bool), c < M.cs.length → (∀ v ∈ az, okV M v) → (K.t i).fr.length < 8 → CO M i (ok (enterP K i c az ((M.t i).sk.length - x - 1) prot) noEv) := by
    intro c az prot hc hv h8
    refine CO.go (hK.enter hiK (by rw [ecs]; exact hc) az (fun v h => om (hv v h)) _ prot (by rw [ebase, eclo, ep]; omega) (by rw [ebase, eclo, ep]; omega) (by rw [esk]; omega) (by rw [esk]; omega) h8) ?_ efu ⟨[], by rw [List.append_nil]; exact eou⟩
    show _ ≤ (K.setT i _).th.length
    rw [th_setT, hth]
    exact Nat.le_refl _
  have hth' : ∀ {v : V}, okV M v → CO M i (thr K noEv v) := fun hv =>
    ⟨.inr (.inl rfl), fun _ => hK, fun e => absurd (show (2 : Nat) = 0 from e) (by decide), fun _ => om hv, fun e => absurd (show (2 : Nat) = 3 from e) (by decide), by show _ ≤ K.th.length; rw [hth]; exact Nat.le_refl _, efu, ⟨[], by rw [List.append_nil]; exact eou⟩⟩
  split
  · rename_i h5
    split
    · exact hth' (str_okV _ (by decide))
    · exact hen false (vfn.fun_lt h5) vargs (by omega)
  split
  · exact hth' (str_okV _ (by decide))
  split
  · split
    · rename_i hc
      exact hen true (va0.fun_lt hc.1) (fun v hv => by rw [List.mem_singleton] at hv; rw [hv]; exact va1) hc.2
    · exact hcp (bool_okV _ _) (str_okV _ (by split <;> decide))
  split
  · split
    · exact hth' (str_okV _ (by decide))
    rename_i h7
    have hlt := va0.co_lt (by omega)
    split
    · rename_i hst
      have hne : i ≠ a0.N := by
        intro e
        rw [← e, est] at hst
        omega
      have hP := hK.pause (st := 3) hiK (.inl rfl) (n := (M.t i).sk.length - x - 1) (by rw [esk]; omega) (by rw [ebase, eclo, ep]; omega) (by rw [ebase, eclo, ep]; omega)
      have hPth : (cutP (K.setT i { K.t i with st := 3 }) i ((M.t i).sk.length - x - 1)).th.length = M.th.length := by
        show ((K.setT i _).setT i _).th.length = _
        rw [th_setT, th_setT, hth]
      have hPt : (cutP (K.setT i { K.t i with st := 3 }) i ((M.t i).sk.length - x - 1)).t i = { K.t i with st := 3, sk := (K.t i).sk.take ((M.t i).sk.length - x - 1) } := by
        rw [cut_t (by rw [th_setT]; exact hiK), t_setT hiK]
      have hPo : (cutP (K.setT i { K.t i with st := 3 }) i ((M.t i).sk.length - x - 1)).t a0.N = K.t a0.N := by
        show ((K.setT i _).setT i _).t a0.N = _
        rw [t_setT_ne hne, t_setT_ne hne]
      refine ⟨.inl rfl, fun e => absurd ⟨rfl, by show (4 : Nat) ≠ 0; decide⟩ e, fun _ _ => ⟨hP, ⟨⟨by show 1 ≤ 4; omega, by show 4 ≤ 4; omega⟩, rfl, va1.mono (by show _ ≤ K.tb.length; rw [etb]; exact Nat.le_refl _) (by show _ ≤ K.cs.length; rw [ecs]; exact Nat.le_refl _) (by rw [show (ok (cutP (K.setT i { K.t i with st := 3 }) i ((M.t i).sk.length - x - 1)) (⟨4, a0.N, 0, a1, nilV⟩ : Ev)).M.th.length = M.th.length from hPth]; exact Nat.le_refl _), nil_okV _, fun e => absurd (show 4 = 1 ∨ 4 = 2 from e) (by omega), fun e => absurd (show 4 = 3 from e) (by omega), fun e => absurd rfl e, fun _ => ⟨?_, ?_, ?_, fun e => hne e.symm, ?_⟩⟩⟩, fun e => absurd (show (0 : Nat) = 2 from e) (by decide), fun e => absurd (show (0 : Nat) = 3 from e) (by decide), by show _ ≤ (cutP _ i _).th.length; rw [hPth]; exact Nat.le_refl _, efu, ⟨[], by rw [List.append_nil]; exact eou⟩⟩
      · show ((cutP (K.setT i { K.t i with st := 3 }) i ((M.t i).sk.length - x - 1)).t i).st = 3
        rw [hPt]
      · show 1 ≤ a0.N
        rcases Nat.eq_zero_or_pos a0.N with h0 | h0
        · exfalso
          have hz := hK.th 0 (by omega)
          rw [h0] at hst hne
          rcases hst with hst | hst
          · have := hz.main0 rfl hst
            omega
          · exact hz.main1 rfl hst
        · exact h0
      · show a0.N < (cutP (K.setT i { K.t i with st := 3 }) i ((M.t i).sk.length - x - 1)).th.length
        rw [hPth]
        exact hlt
      · show ((cutP (K.setT i { K.t i with st := 3 }) i ((M.t i).sk.length - x - 1)).t a0.N).st = 1 ∨ ((cutP (K.setT i { K.t i with st := 3 }) i ((M.t i).sk.length - x - 1)).t a0.N).st = 2
        rw [hPo]
        exact hst
    · exact hcp (bool_okV _ _) (str_okV _ (stName_len _))
  split
  · split
    · exact hth' (str_okV _ (by decide))
    · rename_i h0
      have hP := hK.pause (st := 2) hiK (.inr ⟨rfl, h0⟩) (n := (M.t i).sk.length - x - 1) (by rw [esk]; omega) (by rw [ebase, eclo, ep]; omega) (by rw [ebase, eclo, ep]; omega)
      have hPth : (cutP (K.setT i { K.t i with st := 2 }) i ((M.t i).sk.length - x - 1)).th.length = M.th.length := by
        show ((K.setT i _).setT i _).th.length = _
        rw [th_setT, th_setT, hth]
      have hPt : (cutP (K.setT i { K.t i with st := 2 }) i ((M.t i).sk.length - x - 1)).t i = { K.t i with st := 2, sk := (K.t i).sk.take ((M.t i).sk.length - x - 1) } := by
        rw [cut_t (by rw [th_setT]; exact hiK), t_setT hiK]
      refine ⟨.inl rfl, fun e => absurd ⟨rfl, by show (3 : Nat) ≠ 0; decide⟩ e, fun _ _ => ⟨hP, ⟨⟨by show 1 ≤ 3; omega, by show 3 ≤ 4; omega⟩, rfl, va0.mono (by show _ ≤ K.tb.length; rw [etb]; exact Nat.le_refl _) (by show _ ≤ K.cs.length; rw [ecs]; exact Nat.le_refl _) (by rw [show (ok (cutP (K.setT i { K.t i with st := 2 }) i ((M.t i).sk.length - x - 1)) (⟨3, 0, 0, a0, nilV⟩ : Ev)).M.th.length = M.th.length from hPth]; exact Nat.le_refl _), nil_okV _, fun e => absurd (show 3 = 1 ∨ 3 = 2 from e) (by omega), fun _ => ⟨by show ((cutP (K.setT i { K.t i with st := 2 }) i ((M.t i).sk.length - x - 1)).t i).st = 2; rw [hPt], h0⟩, fun _ => rfl, fun e => absurd (show 3 = 4 from e) (by omega)⟩⟩, fun e => absurd (show (0 : Nat) = 2 from e) (by decide), fun e => absurd (show (0 : Nat) = 3 from e) (by decide), by show _ ≤ (cutP _ i _).th.length; rw [hPth]; exact Nat.le_refl _, efu, ⟨[], by rw [List.append_nil]; exact eou⟩⟩
  · have hb := built_keeps hK hiK fn.N (om va0) (om va1)
    unfold Ou.then
    by_cases hk : (builtP K fn.N a0 a1).k = 0
    · rw [if_pos hk]
      have hib : i < (builtP K fn.N a0 a1).M.th.length := by have := hb.th; omega
      obtain ⟨l, hl⟩ := hb.out
      refine CO.go (cut_push hb.al hib (by rw [hb.t, hb.p, ebase, eclo, ep]; omega) (by rw [hb.t, hb.p, ebase, eclo, ep]; omega) (by rw [hb.t, esk]; omega) hb.v.1 hb.v.2) ?_ (hb.fuel.trans efu) ⟨l, by rw [← eou]; exact hl⟩
      show _ ≤ ((cutP (builtP K fn.N a0 a1).M i _).setT i _).th.length
      rw [th_setT]
      show _ ≤ ((builtP K fn.N a0 a1).M.setT i _).th.length
      rw [th_setT]
      have := hb.th
      omega
    · rw [if_neg hk]
      obtain ⟨l, hl⟩ := hb.out
      refine ⟨hb.k, fun _ => hb.al, fun e => absurd e hk, hb.thr, fun e => by rcases hb.trp e with q | q <;> simp [q], by have := hb.th; show _ ≤ (builtP K fn.N a0 a1).M.th.length; omega, hb.fuel.trans efu, ⟨l, by rw [← eou]; exact hl⟩⟩
theorem call_step (hA : Alive M (some i)) (hi : i < M.th.length) {x : Nat} (hx : x ≤ 3) (hpc : (M.t i).f.pc < (M.p (M.t i).f.clo).nc) (h1 : (M.t i).f.base + (M.p (M.t i).f.clo).ns + (x + 1) ≤ (M.t i).sk.length) (h2 : (M.t i).sk.length + 1 ≤ (M.t i).f.base + (M.p (M.t i).f.clo).ns + 128 + x) : SK M i (callP M i x) := by
  unfold callP burnP
  by_cases h0 : M.fuel = 0
  · rw [if_pos h0]
    exact SK.fuelOut hA
  · rw [if_neg h0]
    have hF : Alive { M with fuel := M.fuel - 1 } (some i) := hA.fuel (by omega)
    have g : CO { M with fuel := M.fuel - 1 } i (callB { M with fuel := M.fuel - 1 } i x) := callB_keeps hF hi hx hpc h1 h2
    show SK M i (callB { M with fuel := M.fuel - 1 } i x)
    have hfu : (callB { M with fuel := M.fuel - 1 } i x).M.fuel = M.fuel - 1 := g.fuel
    have hth : M.th.length ≤ (callB { M with fuel := M.fuel - 1 } i x).M.th.length := g.th
    exact ⟨g.k, g.run, g.ev, g.thr, g.trp, hth, by omega, g.out, fun a b => meas_burnt (g.run (fun q => q.2 b)) (by omega) (by omega), fun a => Nat.le_of_lt (meas_burnt (g.run (fun q => by omega)) (by omega) (by omega)), fun a => absurd a h0⟩
/-- One round of the dispatch loop. -/
theorem step_keeps (hA : Alive M (some i)) (hi : i < M.th.length) : SK M i (stepP M i) := by
  obtain ⟨r1, r2, r3, r4, r5, r6, r7⟩ := hA.runs hi
  unfold stepP
  simp only
  split
  · exact SK.code hA
  rename_i hpc
  split
  · rename_i ht
    generalize M.co[(M.p (M.t i).f.clo).co + (M.t i).f.pc]?.getD (0, 0) = c at *
    have ht0 := ht
    unfold testP at ht
    simp only [Bool.and_eq_true, decide_eq_true_eq] at ht
    obtain ⟨hs, hn, hg⟩ := ht
    have kd : (M.t i).f.base + (M.p (M.t i).f.clo).ns + 1 ≤ (M.t i).sk.length → Pk M i (dropP M i) := Pk.drop hA hi
    have pcd : (M.t i).f.base + (M.p (M.t i).f.clo).ns + 1 ≤ (M.t i).sk.length → SK M i (ok (pc1 (dropP M i) i) noEv) := fun h => by
      have := plain_step hA hi (PO.ok (x := ()) (kd h)) (by omega)
      exact this
    have jmd : c.2 < (M.p (M.t i).f.clo).nc → (M.t i).f.base + (M.p (M.t i).f.clo).ns + 1 ≤ (M.t i).sk.length → SK M i ((jumpP (dropP M i) i c.2).then noEv fun M _ => ok M noEv) := fun hx h => by
      have q := kd h
      exact SK.pre q hA hi (jump_step q.al (by rw [q.th]; exact hi) (by rw [q.pf r4]; exact hx))
    unfold instP
    split
    · rename_i h21
      rw [h21] at hs
      simp [soundP] at hs
      exact jump_step hA hi hs
    split
    · rename_i h22
      rw [h22] at hs hn
      simp [soundP] at hs
      simp [effP] at hn
      split
      · exact pcd (by omega)
      · exact jmd hs (by omega)
    split
    · rename_i h23
      have hx : c.2 < (M.p (M.t i).f.clo).nc := by
        rcases h23 with h | h <;> (rw [h] at hs; simp [soundP] at hs; exact hs)
      have hn1 : (1 : Int) ≤ ((M.t i).sk.length : Int) - ((M.t i).f.base : Int) - ((M.p (M.t i).f.clo).ns : Int) := by
        rcases h23 with h | h <;> (rw [h] at hn; simp [effP] at hn; omega)
      split
      · exact jump_step hA hi hx
      · exact pcd (by omega)
    split
    · rename_i h26
      rw [h26] at hs hn hg
      simp [soundP] at hs
      simp [effP] at hn hg
      exact call_step hA hi hs (by omega) (by omega) (by omega)
    split
    · rename_i h27
      rw [h27] at hn
      simp [effP] at hn
      exact ret_step hA hi (by omega)
    · exact plain_step hA hi (plain_keeps hA hi c.1 c.2 ht0 (by omega)) (by omega)
  · exact SK.code hA
end
end Go.Proofs.Qxb6500293aGreatRR
