/-
  THE MACHINE, PLAIN: the invariant.
-/
import Derived.Test.Qxb6500293aGreatRRY0
namespace Go.Proofs.Qxb6500293aGreatRR
open Ieee (double)
set_option linter.unusedVariables false

/-- A value that is valid in the machine. -/
def okV (M : Mc) (v : V) : Prop := validP M v = true ∧ v.N < 18446744073709551616
/-- Where frame j's operands end; where the next frame's slots begin. -/
def endF (t : Th) (j : Nat) : Nat := if j + 1 < t.fr.length then (t.fr[j + 1]?.getD dF).ret else t.sk.length
def topF (t : Th) (j : Nat) : Nat := if j + 1 < t.fr.length then (t.fr[j + 1]?.getD dF).base else t.sk.length
structure FrOk (M : Mc) (t : Th) (owes j : Nat) (f : Fr) : Prop where
  clo : f.clo < M.cs.length
  pc : f.pc ≤ (M.p f.clo).nc
  ret : f.ret ≤ f.base
  zero : j = 0 → f.base = 0 ∧ f.ret = 0 ∧ f.prot = false
  mid : f.base + (M.p f.clo).ns ≤ endF t j
  room : endF t j + (if j + 1 < t.fr.length then 2 else owes) ≤ f.base + (M.p f.clo).ns + 128
  top : endF t j ≤ topF t j ∧ topF t j ≤ t.sk.length
  gap : j + 1 < t.fr.length → endF t j < topF t j ∧ topF t j ≤ endF t j + 4 ∧ topF t j ≤ f.base + (M.p f.clo).ns + 128
/-- Slot 'at' is one of the thread's frames' slots. -/
def InSlots (M : Mc) (t : Th) (at' : Nat) : Prop := ∃ (j : Nat) (f : Fr), t.fr[j]? = some f ∧ f.base ≤ at' ∧ at' < f.base + (M.p f.clo).ns
structure ThOk (M : Mc) (run : Option Nat) (i : Nat) (t : Th) : Prop where
  fn : t.fn < M.cs.length
  isrun : t.st = 4 ↔ run = some i
  st : 1 ≤ t.st ∧ t.st ≤ 5
  main0 : i = 0 → t.st = 1 → M.th.length = 1
  main1 : i = 0 → t.st ≠ 2
  dead : t.st = 1 ∨ t.st = 5 → t.sk = [] ∧ t.fr = [] ∧ t.op = []
  fr1 : t.st ≠ 1 → t.st ≠ 5 → 1 ≤ t.fr.length
  fr8 : t.fr.length ≤ 8
  frs : ∀ (j : Nat) (f : Fr), t.fr[j]? = some f → FrOk M t (if run = some i then 0 else 2) j f
  opm : ∀ c ∈ t.op, c < M.ce.length ∧ (M.x c).th = (i : Int) ∧ InSlots M t (M.x c).at'
  ops : t.op.Pairwise (fun a b => (M.x a).at' < (M.x b).at')
def tileP (ds ks co : Nat) : List Pr → Nat → Nat → Nat → Prop
  | [], u, k, c => u = ds ∧ k = ks ∧ c = co
  | p :: r, u, k, c => p.up = u ∧ p.k = k ∧ p.co = c ∧ tileP ds ks co r (u + p.nup) (k + p.nk) (c + p.nc)
def tileC (ux : Nat) : List Cs → Nat → Prop
  | [], u => u = ux
  | c :: r, u => c.up = u ∧ tileC ux r (u + c.nup)
/-- The text of the program. -/
structure StOk (M : Mc) : Prop where
  pr1 : 1 ≤ M.pr.length
  pr13 : M.pr.length ≤ 13
  tile : tileP M.ds.length M.ks.length M.co.length M.pr 0 0 0
  each : ∀ p ∈ M.pr, p.np ≤ 3 ∧ p.np ≤ p.ns ∧ p.ns ≤ 12 ∧ p.nup ≤ 255 ∧ p.nc ≤ 65535
  win : ∀ p ∈ M.pr, p.up + p.nup ≤ M.ds.length ∧ p.k + p.nk ≤ M.ks.length ∧ p.co + p.nc ≤ M.co.length
  lds : M.ds.length ≤ 40000
  lks : M.ks.length ≤ 40000
  lco : M.co.length ≤ 40000
  ds : ∀ d ∈ M.ds, d.1 ≤ 1 ∧ d.2 < 256
  co : ∀ d ∈ M.co, d.1 < 256 ∧ d.2 < 65536
  ks : ∀ v ∈ M.ks, v.T = 2 ∨ v.T = 3
/-- The closures and the cells. -/
structure ClOk (M : Mc) (sl : Nat) : Prop where
  cs1 : 1 ≤ M.cs.length
  cs24 : M.cs.length ≤ 24
  tile : tileC M.ux.length M.cs 0
  each : ∀ c ∈ M.cs, c.p < M.pr.length ∧ c.nup = (M.pr[c.p]?.getD dP).nup ∧ c.up + c.nup ≤ M.ux.length
  ux : ∀ u ∈ M.ux, u < M.ce.length
  lux : M.ux.length ≤ 255 * M.cs.length
  lce : M.ce.length ≤ M.ux.length + sl
  ceo : ∀ x, x < M.ce.length → 0 ≤ (M.x x).th → ∃ i : Nat, (M.x x).th = (i : Int) ∧ i < M.th.length ∧ x ∈ (M.t i).op
  cec : ∀ x, x < M.ce.length → ¬ 0 ≤ (M.x x).th → (M.x x).th = -1 ∧ (M.x x).at' = 0
  cnt : (M.th.map (fun t => t.op.length)).sum = M.ce.countP (fun c => decide (0 ≤ c.th))
structure VaOk (M : Mc) : Prop where
  ks : ∀ v ∈ M.ks, okV M v
  ce : ∀ c ∈ M.ce, okV M c.v
  sk : ∀ t ∈ M.th, ∀ v ∈ t.sk, okV M v
  tb : ∀ t ∈ M.tb, ∀ e ∈ t, okV M e.1 ∧ okV M e.2
structure OuOk (M : Mc) : Prop where
  fuel : M.fuel ≤ 9223372036854775807
  out : M.out.length ≤ 200
  line : M.out = [] ∨ ∃ l, M.out = l ++ [10]
/-- The machine can run; thread 'run' is within Exec. -/
structure Alive (M : Mc) (run : Option Nat) (sl : Nat := 0) : Prop where
  en : M.en = 0
  st : StOk M
  cl : ClOk M sl
  th1 : 1 ≤ M.th.length
  th5 : M.th.length ≤ 5
  th : ∀ i, i < M.th.length → ThOk M run i (M.t i)
  va : VaOk M
  ou : OuOk M
  tb : 1 ≤ M.tb.length
  tb12 : M.tb.length ≤ 12
/-- The machine has ended, or nothing is loaded. -/
structure Ended (M : Mc) : Prop where
  en : M.en ≠ 0
  lo : -9223372036854775808 ≤ M.en
  hi : M.en ≤ 9223372036854775807
  nil : M.pr = [] ∧ M.ds = [] ∧ M.ks = [] ∧ M.co = [] ∧ M.cs = [] ∧ M.ux = [] ∧ M.ce = [] ∧ M.th = []
  ou : OuOk M
def Rest (M : Mc) : Prop := Alive M none ∨ Ended M
/-! ### what follows -/
section
variable {M : Mc} {run : Option Nat} {sl : Nat}
theorem Alive.clo (h : Alive M run sl) {c : Nat} (hc : c < M.cs.length) : (M.c c).p < M.pr.length ∧ (M.c c).nup = (M.p c).nup ∧ (M.c c).up + (M.c c).nup ≤ M.ux.length := by
  have hm : M.c c ∈ M.cs := by unfold Mc.c; rw [List.getElem?_eq_getElem hc]; exact List.getElem_mem hc
  exact h.cl.each _ hm
theorem Alive.pro (h : Alive M run sl) {p : Nat} (hp : p < M.pr.length) : M.pr[p]?.getD dP ∈ M.pr := by rw [List.getElem?_eq_getElem hp]; exact List.getElem_mem hp
theorem Alive.prc (h : Alive M run sl) {c : Nat} (hc : c < M.cs.length) : M.p c ∈ M.pr := h.pro (h.clo hc).1
theorem Alive.ux (h : Alive M run sl) : M.ux.length ≤ 6120 ∧ M.ce.length ≤ 6120 + sl := by
  have h1 := h.cl.lux
  have h2 := h.cl.lce
  have h3 := h.cl.cs24
  omega
end
theorem endF_last {t : Th} {j : Nat} (h : t.fr.length ≤ j + 1) : endF t j = t.sk.length := if_neg (by omega)
theorem topF_last {t : Th} {j : Nat} (h : t.fr.length ≤ j + 1) : topF t j = t.sk.length := if_neg (by omega)
theorem endF_in {t : Th} {j : Nat} {f : Fr} (h : t.fr[j + 1]? = some f) : endF t j = f.ret := by
  unfold endF
  rw [if_pos (List.getElem?_eq_some_iff.1 h).1, h]
  rfl
theorem topF_in {t : Th} {j : Nat} {f : Fr} (h : t.fr[j + 1]? = some f) : topF t j = f.base := by
  unfold topF
  rw [if_pos (List.getElem?_eq_some_iff.1 h).1, h]
  rfl
section
variable {M : Mc} {run : Option Nat} {i : Nat} {t : Th}
/-- The frames' windows rise. -/
theorem ThOk.mono (h : ThOk M run i t) {j : Nat} {f : Fr} (hj : t.fr[j]? = some f) {k : Nat} {g : Fr} (hk : t.fr[j + (k + 1)]? = some g) : f.base + (M.p f.clo).ns ≤ g.ret := by
  induction k generalizing g with
  | zero =>
    have h1 := (h.frs j f hj).mid
    rw [endF_in hk] at h1
    exact h1
  | succ k ih =>
    have hlt := (List.getElem?_eq_some_iff.1 hk).1
    obtain ⟨e, he⟩ : ∃ e, t.fr[j + (k + 1)]? = some e := ⟨_, List.getElem?_eq_getElem (by omega)⟩
    have h1 := ih he
    have h2 := (h.frs _ e he).mid
    have h3 := (h.frs _ e he).ret
    have e5 : endF t (j + (k + 1)) = g.ret := endF_in hk
    rw [e5] at h2
    omega
theorem ThOk.base_le (h : ThOk M run i t) {j : Nat} {f : Fr} (hj : t.fr[j]? = some f) : f.base + (M.p f.clo).ns ≤ t.sk.length := by
  have h1 := (h.frs j f hj).mid
  have h2 := (h.frs j f hj).top
  omega
end
end Go.Proofs.Qxb6500293aGreatRR
