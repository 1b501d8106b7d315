/-
  THE MACHINE, PLAIN: the dispatch loop, the boundary, Exec.
-/
import Derived.Test.Qxb6500293aGreatRRZ4
namespace Go.Proofs.Qxb6500293aGreatRR
open Ieee (double)
set_option linter.unusedVariables false
set_option linter.unusedSimpArgs false

abbrev goes (o : Ou Ev) : Prop := o.k = 0 ∧ o.x.K = 0
/-- The dispatch loop, n rounds at most. -/
def loopF : Nat → Mc → Nat → Ou Ev
  | 0, M, _ => trp M noEv 11
  | n + 1, M, i => if goes (stepP M i) then loopF n (stepP M i).M i else stepP M i
theorem loopF_succ (n : Nat) (M : Mc) (i : Nat) : loopF (n + 1) M i = if goes (stepP M i) then loopF n (stepP M i).M i else stepP M i := rfl
def loopP (M : Mc) (i : Nat) : Ou Ev := loopF (meas M i + 1) M i
section
variable {i : Nat}
theorem loopF_any (n : Nat) : ∀ (m : Nat) {M : Mc}, Alive M (some i) → i < M.th.length → meas M i < n → meas M i < m → loopF n M i = loopF m M i := by
  induction n with
  | zero => intro m M hA hi h1 h2; exact absurd h1 (Nat.not_lt_zero _)
  | succ n ih =>
    intro m M hA hi h1 h2
    obtain ⟨m, rfl⟩ : ∃ q, m = q + 1 := ⟨m - 1, by omega⟩
    have g := step_keeps hA hi
    rw [loopF_succ, loopF_succ]
    by_cases c : goes (stepP M i)
    · rw [if_pos c, if_pos c]
      have := g.dec0 c.1 c.2
      exact ih m (g.run (fun q => q.2 c.2)) (by have := g.th; omega) (by omega) (by omega)
    · rw [if_neg c, if_neg c]
theorem loopP_go {M : Mc} (hA : Alive M (some i)) (hi : i < M.th.length) (h : goes (stepP M i)) : loopP M i = loopP (stepP M i).M i := by
  have g := step_keeps hA hi
  have := g.dec0 h.1 h.2
  have e : loopP M i = loopF (meas M i) (stepP M i).M i := by
    unfold loopP
    rw [loopF_succ, if_pos h]
  rw [e]
  exact loopF_any _ _ (g.run (fun q => q.2 h.2)) (by have := g.th; omega) (by omega) (by omega)
theorem loopP_end {M : Mc} (h : ¬ goes (stepP M i)) : loopP M i = stepP M i := by
  unfold loopP
  rw [loopF_succ, if_neg h]
/-- What the loop leaves. -/
structure LK (M : Mc) (i : Nat) (o : Ou Ev) : Prop where
  k : o.k = 0 ∨ o.k = 2 ∨ o.k = 3
  fin : o.k = 0 → o.x.K ≠ 0
  run : o.k ≠ 0 → Alive o.M (some i)
  ev : o.k = 0 → Alive o.M none ∧ EvOk o.M i o.x
  thr : o.k = 2 → okV o.M o.v
  trp : o.k = 3 → o.e = 8 ∨ o.e = 9 ∨ o.e = 10 ∨ o.e = 11
  th : M.th.length ≤ o.M.th.length
  fuel : o.M.fuel ≤ M.fuel
  out : ∃ l, o.M.out = M.out ++ l
  dec2 : o.k = 2 → meas o.M i ≤ meas M i
  quiet : M.fuel = 0 → o.M.out = M.out ∧ (o.k = 0 → o.x.K = 1) ∧ (o.k = 2 → o.v ∈ errs)
theorem loopF_keeps (n : Nat) : ∀ {M : Mc}, Alive M (some i) → i < M.th.length → meas M i < n → LK M i (loopF n M i) := by
  induction n with
  | zero => intro M hA hi h1; exact absurd h1 (Nat.not_lt_zero _)
  | succ n ih =>
    intro M hA hi h1
    have g := step_keeps hA hi
    rw [loopF_succ]
    by_cases c : goes (stepP M i)
    · rw [if_pos c]
      have hd := g.dec0 c.1 c.2
      have hth := g.th
      have l := ih (g.run (fun q => q.2 c.2)) (by omega) (by omega)
      obtain ⟨o1, ho1⟩ := g.out
      obtain ⟨o2, ho2⟩ := l.out
      refine ⟨l.k, l.fin, l.run, l.ev, l.thr, l.trp, Nat.le_trans hth l.th, Nat.le_trans l.fuel g.fuel, ⟨o1 ++ o2, by rw [ho2, ho1, List.append_assoc]⟩, fun e => by have := l.dec2 e; omega, fun h0 => ?_⟩
      obtain ⟨q1, q2, q3⟩ := g.quiet h0
      have h0' : (stepP M i).M.fuel = 0 := by have := g.fuel; omega
      obtain ⟨p1, p2, p3⟩ := l.quiet h0'
      exact ⟨p1.trans q1, p2, p3⟩
    · rw [if_neg c]
      have hne : (stepP M i).k = 0 → (stepP M i).x.K ≠ 0 := fun a b => c ⟨a, b⟩
      refine ⟨g.k, hne, fun a => g.run (fun q => a q.1), fun a => g.ev a (hne a), g.thr, g.trp, g.th, g.fuel, g.out, g.dec2, fun h0 => ?_⟩
      obtain ⟨q1, q2, q3⟩ := g.quiet h0
      refine ⟨q1, fun a => ?_, q3⟩
      rcases q2 a with e | e
      · exact absurd e (hne a)
      · exact e
theorem loop_keeps {M : Mc} (hA : Alive M (some i)) (hi : i < M.th.length) : LK M i (loopP M i) := loopF_keeps _ hA hi (by omega)
end
/-- run: the machine, the event, done. -/
def runO (i : Nat) (o : Ou Ev) : Mc × Ev × Bool :=
  if o.k = 0 then (o.M, o.x, true)
  else if o.k = 3 then (wipeP o.M o.e, ⟨5, 0, o.e, nilV, nilV⟩, true)
  else unwP o.M i o.v
def runP (M : Mc) (i : Nat) : Mc × Ev × Bool := runO i (loopP M i)
theorem runP_eq (M : Mc) (i : Nat) : runP M i = runO i (loopP M i) := rfl
/-- Exec's loop, n rounds at most. -/
def execF : Nat → Mc → Nat → Mc × Ev
  | 0, M, _ => (M, noEv)
  | n + 1, M, i => if (runP M i).2.2 then ((runP M i).1, (runP M i).2.1) else execF n (runP M i).1 i
theorem execF_succ (n : Nat) (M : Mc) (i : Nat) : execF (n + 1) M i = if (runP M i).2.2 then ((runP M i).1, (runP M i).2.1) else execF n (runP M i).1 i := rfl
def execL (M : Mc) (i : Nat) : Mc × Ev := execF (meas M i + 1) M i
/-- What run leaves. -/
structure RK (M : Mc) (i : Nat) (r : Mc × Ev × Bool) : Prop where
  on : r.2.2 = false → Alive r.1 (some i) ∧ meas r.1 i < meas M i ∧ M.th.length ≤ r.1.th.length
  fuel : r.1.fuel ≤ M.fuel
  out : ∃ l, r.1.out = M.out ++ l
  ev : r.2.2 = true → (Alive r.1 none ∧ EvOk r.1 i r.2.1 ∧ M.th.length ≤ r.1.th.length) ∨ (∃ e, r.2.1 = ⟨5, 0, e, nilV, nilV⟩ ∧ (e = 8 ∨ e = 9 ∨ e = 10 ∨ e = 11) ∧ r.1.en = e ∧ Ended r.1 ∧ 1 ≤ r.1.tb.length ∧ r.1.tb.length ≤ 12)
  quiet : M.fuel = 0 → r.1.out = M.out ∧ (r.2.2 = true → r.2.1.K = 1 ∨ r.2.1.K = 5 ∨ ∃ v ∈ errs, r.2.1 = ⟨2, 0, 0, v, nilV⟩)
section
variable {i : Nat}
theorem run_ok {M : Mc} {o : Ou Ev} (hi : i < M.th.length) (l : LK M i o) : RK M i (runO i o) := by
  unfold runO
  by_cases h0 : o.k = 0
  · rw [if_pos h0]
    refine ⟨fun e => absurd (show true = false from e) (by decide), l.fuel, l.out, fun _ => .inl ⟨(l.ev h0).1, (l.ev h0).2, l.th⟩, fun hf => ⟨(l.quiet hf).1, fun _ => .inl ((l.quiet hf).2.1 h0)⟩⟩
  rw [if_neg h0]
  have hR := l.run h0
  by_cases h3 : o.k = 3
  · rw [if_pos h3]
    refine ⟨fun e => absurd (show true = false from e) (by decide), l.fuel, l.out, fun _ => .inr ⟨o.e, rfl, l.trp h3, rfl, ⟨?_, ?_, ?_, ⟨rfl, rfl, rfl, rfl, rfl, rfl, rfl, rfl⟩, ⟨hR.ou.fuel, hR.ou.out, hR.ou.line⟩⟩, hR.tb, hR.tb12⟩, fun hf => ⟨(l.quiet hf).1, fun _ => .inr (.inl rfl)⟩⟩
    · show o.e ≠ 0
      rcases l.trp h3 with h | h | h | h <;> rw [h] <;> decide
    · show _ ≤ o.e
      rcases l.trp h3 with h | h | h | h <;> rw [h] <;> decide
    · show o.e ≤ _
      rcases l.trp h3 with h | h | h | h <;> rw [h] <;> decide
  · rw [if_neg h3]
    have h2 : o.k = 2 := by rcases l.k with h | h | h; exact absurd h h0; exact h; exact absurd h h3
    have hth := l.th
    have u := unwP_ok hR (by omega) (l.thr h2)
    refine ⟨fun e => ⟨(u.on e).1, by have := (u.on e).2; have := l.dec2 h2; omega, by rw [u.th]; exact hth⟩, by rw [u.fuel]; exact l.fuel, by rw [u.out]; exact l.out, fun e => .inl ⟨(u.off e).1, (u.off e).2.1, by rw [u.th]; exact hth⟩, fun hf => ⟨by rw [u.out]; exact (l.quiet hf).1, fun e => .inr (.inr ⟨_, (l.quiet hf).2.2 h2, (u.off e).2.2⟩)⟩⟩
theorem run_keeps {M : Mc} (hA : Alive M (some i)) (hi : i < M.th.length) : RK M i (runP M i) := by
  rw [runP_eq]
  exact run_ok hi (loop_keeps hA hi)
theorem execF_any (n : Nat) : ∀ (m : Nat) {M : Mc}, Alive M (some i) → i < M.th.length → meas M i < n → meas M i < m → execF n M i = execF m M i := by
  induction n with
  | zero => intro m M hA hi h1 h2; exact absurd h1 (Nat.not_lt_zero _)
  | succ n ih =>
    intro m M hA hi h1 h2
    obtain ⟨m, rfl⟩ : ∃ q, m = q + 1 := ⟨m - 1, by omega⟩
    have g := run_keeps hA hi
    rw [execF_succ, execF_succ]
    cases c : (runP M i).2.2 with
    | true => rfl
    | false =>
      rw [if_neg (by decide), if_neg (by decide)]
      obtain ⟨q1, q2, q3⟩ := g.on c
      exact ih m q1 (by omega) (by omega) (by omega)
theorem execL_go {M : Mc} (hA : Alive M (some i)) (hi : i < M.th.length) (h : (runP M i).2.2 = false) : execL M i = execL (runP M i).1 i := by
  have g := run_keeps hA hi
  obtain ⟨q1, q2, q3⟩ := g.on h
  have e : execL M i = execF (meas M i) (runP M i).1 i := by
    unfold execL
    rw [execF_succ, h, if_neg (by decide)]
  rw [e]
  exact execF_any _ _ q1 (by omega) (by omega) (by omega)
theorem execL_end {M : Mc} (h : (runP M i).2.2 = true) : execL M i = ((runP M i).1, (runP M i).2.1) := by
  unfold execL
  rw [execF_succ, h, if_pos rfl]
/-- What Exec leaves. -/
structure XK (M : Mc) (i : Nat) (r : Mc × Ev) : Prop where
  fuel : r.1.fuel ≤ M.fuel
  out : ∃ l, r.1.out = M.out ++ l
  ev : (Alive r.1 none ∧ EvOk r.1 i r.2 ∧ M.th.length ≤ r.1.th.length) ∨ (∃ e, r.2 = ⟨5, 0, e, nilV, nilV⟩ ∧ (e = 8 ∨ e = 9 ∨ e = 10 ∨ e = 11) ∧ r.1.en = e ∧ Ended r.1 ∧ 1 ≤ r.1.tb.length ∧ r.1.tb.length ≤ 12)
  quiet : M.fuel = 0 → r.1.out = M.out ∧ (r.2.K = 1 ∨ r.2.K = 5 ∨ ∃ v ∈ errs, r.2 = ⟨2, 0, 0, v, nilV⟩)
theorem exec_ok {M : Mc} {r : Mc × Ev × Bool} {x : Mc × Ev} (g : RK M i r) (hx : r.2.2 = false → XK r.1 i x) : XK M i (if r.2.2 then (r.1, r.2.1) else x) := by
  cases c : r.2.2 with
  | true =>
    rw [if_pos rfl]
    exact ⟨g.fuel, g.out, g.ev c, fun hf => ⟨(g.quiet hf).1, (g.quiet hf).2 c⟩⟩
  | false =>
    rw [if_neg (by decide)]
    obtain ⟨q1, q2, q3⟩ := g.on c
    have x := hx c
    obtain ⟨o1, ho1⟩ := g.out
    obtain ⟨o2, ho2⟩ := x.out
    refine ⟨Nat.le_trans x.fuel g.fuel, ⟨o1 ++ o2, by rw [ho2, ho1, List.append_assoc]⟩, ?_, fun hf => ?_⟩
    · rcases x.ev with ⟨a, b, d⟩ | e
      · exact .inl ⟨a, b, by omega⟩
      · exact .inr e
    · have hf' : r.1.fuel = 0 := by have := g.fuel; omega
      obtain ⟨p1, p2⟩ := x.quiet hf'
      exact ⟨p1.trans (g.quiet hf).1, p2⟩
theorem execF_keeps (n : Nat) : ∀ {M : Mc}, Alive M (some i) → i < M.th.length → meas M i < n → XK M i (execF n M i) := by
  induction n with
  | zero => intro M hA hi h1; exact absurd h1 (Nat.not_lt_zero _)
  | succ n ih =>
    intro M hA hi h1
    have g := run_keeps hA hi
    rw [execF_succ]
    exact exec_ok g (fun c => ih (g.on c).1 (Nat.lt_of_lt_of_le hi (g.on c).2.2) (Nat.lt_of_lt_of_le (g.on c).2.1 (Nat.le_of_lt_succ h1)))
theorem execL_keeps {M : Mc} (hA : Alive M (some i)) (hi : i < M.th.length) : XK M i (execL M i) := execF_keeps _ hA hi (by omega)
end
def badEv : Ev := ⟨6, 0, 0, nilV, nilV⟩
def firstP (M : Mc) (n : Nat) (a : V) : Mc := (enterP M n (M.t n).fn [a] 0 false).setT n { (enterP M n (M.t n).fn [a] 0 false).t n with st := 4 }
def goOnP (M : Mc) (n : Nat) (a b : V) : Mc := (pushP M n [a, b]).setT n { (pushP M n [a, b]).t n with st := 4 }
/-- Exec. -/
def execP (M : Mc) (th : Int) (a b : V) : Mc × Ev :=
  if M.en ≠ 0 ∨ th < 0 ∨ (M.th.length : Int) ≤ th then (M, badEv)
  else if validP M a = false ∨ validP M b = false then (M, badEv)
  else if (M.t th.toNat).st = 1 then execL (firstP M th.toNat a) th.toNat
  else if (M.t th.toNat).st = 2 ∨ (M.t th.toNat).st = 3 then execL (goOnP M th.toNat a b) th.toNat
  else (M, badEv)
/-- What Exec answers: refused and nothing turned; or played. -/
theorem exec_keeps {M : Mc} (hR : Rest M) (th : Int) {a b : V} (ha : a.N < 18446744073709551616) (hb : b.N < 18446744073709551616) :
    execP M th a b = (M, badEv) ∨ (M.en = 0 ∧ 0 ≤ th ∧ th.toNat < M.th.length ∧ XK M th.toNat (execP M th a b)) := by
  unfold execP
  split
  · exact .inl rfl
  rename_i h1
  split
  · exact .inl rfl
  rename_i h2
  have he : M.en = 0 := Decidable.byContradiction fun h => h1 (.inl h)
  have h0 : 0 ≤ th := by omega
  have hl : th.toNat < M.th.length := by omega
  have hA : Alive M none := by
    rcases hR with h | h
    · exact h
    · exact absurd he h.en
  have va : okV M a := ⟨by cases h : validP M a; exact absurd (.inl h) h2; rfl, ha⟩
  have vb : okV M b := ⟨by cases h : validP M b; exact absurd (.inr h) h2; rfl, hb⟩
  split
  · rename_i hs
    refine .inr ⟨he, h0, hl, ?_⟩
    have h := hA.first hl hs [a] (fun v hv => by rw [List.mem_singleton] at hv; rw [hv]; exact va)
    have ht : (firstP M th.toNat a).th.length = M.th.length := by
      show ((enterP M _ _ [a] 0 false).setT _ _).th.length = _
      rw [th_setT]
      exact th_setT M _ _
    have x := execL_keeps (M := firstP M th.toNat a) h (by rw [ht]; exact hl)
    have e := x.ev
    rw [ht] at e
    exact ⟨x.fuel, x.out, e, x.quiet⟩
  split
  · rename_i hs
    refine .inr ⟨he, h0, hl, ?_⟩
    have h := hA.goOn hl hs va vb
    have ht : (goOnP M th.toNat a b).th.length = M.th.length := by
      show ((pushP M _ [a, b]).setT _ _).th.length = _
      rw [th_setT]
      exact th_setT M _ _
    have x := execL_keeps (M := goOnP M th.toNat a b) h (by rw [ht]; exact hl)
    have e := x.ev
    rw [ht] at e
    exact ⟨x.fuel, x.out, e, x.quiet⟩
  · exact .inl rfl
end Go.Proofs.Qxb6500293aGreatRR
