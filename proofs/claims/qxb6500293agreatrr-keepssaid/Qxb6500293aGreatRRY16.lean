/-
  plain walked: its head; the instructions that push what they are told.
-/
import Derived.Test.Qxb6500293aGreatRRY15
import Derived.Test.Qxb6500293aGreatRRY12
import Derived.Test.Qxb6500293aGreatRRY6
namespace Go.Proofs.Qxb6500293aGreatRR
open Go.RowKit
open Ieee (double)
set_option linter.unusedVariables false
set_option linter.unusedSimpArgs false

/-- Where the running thread's frame and its proto lie. -/
structure PlF (W : World) (m a : Nat) (M : Mc) (i fb n cp pb : Nat) : Prop where
  fr : W.cell? ⟨a, i * 5 + 3, none⟩ = some (.slice (some ⟨fb, 0, none⟩) (n + 1) cp)
  len : (M.t i).fr.length = n + 1
  pr : ∃ k c, W.cell? ⟨m, 2, none⟩ = some (.slice (some ⟨pb, 0, none⟩) k c)
/-- What plain reads of them. -/
structure PlC (W : World) (m a : Nat) (M : Mc) (i fb n pb P sl base ns kk clo : Nat) (ad : Option Addr) (scp : Nat) : Prop where
  sk : W.cell? ⟨a, i * 5 + 2, none⟩ = some (.slice ad sl scp)
  slc : sl ≤ scp
  fb2 : W.cell? ⟨fb, n * 5 + 2, none⟩ = some (i64 base)
  fb0 : W.cell? ⟨fb, n * 5, none⟩ = some (i64 clo)
  pb1 : W.cell? ⟨pb, P * 8 + 1, none⟩ = some (i64 ns)
  pb4 : W.cell? ⟨pb, P * 8 + 4, none⟩ = some (i64 kk)
  le : base + ns ≤ sl
  sl9 : sl ≤ 10000
  kk9 : kk ≤ 40000
  esl : Hid (sl = (M.t i).sk.length ∧ base = (M.t i).f.base ∧ ns = (M.p (M.t i).f.clo).ns ∧ kk = (M.p (M.t i).f.clo).k ∧ clo = (M.t i).f.clo ∧ P = (M.c (M.t i).f.clo).p)
  fbl : fb < W.heap.size
  pbl : pb < W.heap.size
theorem sk_bound {M : Mc} {run : Option Nat} {sl i : Nat} (h : Alive M run sl) (hi : i < M.th.length) : (M.t i).sk.length ≤ 1120 := by
  have ht := h.th i hi
  by_cases hf : 1 ≤ (M.t i).fr.length
  · have key : ∀ j f, (M.t i).fr[j]? = some f → f.base ≤ 140 * j := by
      intro j
      induction j with
      | zero =>
        intro f hf0
        have := (ht.frs 0 f hf0).zero rfl
        omega
      | succ j ih =>
        intro f hfj
        have hl := (List.getElem?_eq_some_iff.1 hfj).1
        obtain ⟨g, hg⟩ : ∃ g, (M.t i).fr[j]? = some g := ⟨_, List.getElem?_eq_getElem (by omega)⟩
        have h1 := ih g hg
        have h2 := ((ht.frs j g hg).gap hl).2.2
        rw [topF_in hfj] at h2
        have h3 := (h.st.each _ (h.prc (ht.frs j g hg).clo)).2.2.1
        omega
    have hl := Th.f_at hf
    have h1 := key _ _ hl
    have h2 := (ht.frs _ _ hl).room
    rw [endF_last (by omega)] at h2
    have h3 := (h.st.each _ (h.prc (ht.frs _ _ hl).clo)).2.2.1
    have h8 := ht.fr8
    omega
  · have hd : (M.t i).st = 1 ∨ (M.t i).st = 5 := by
      by_cases c1 : (M.t i).st = 1
      · exact .inl c1
      · by_cases c5 : (M.t i).st = 5
        · exact .inr c5
        · exact absurd (ht.fr1 c1 c5) hf
    rw [(ht.dead hd).1]
    decide
theorem PlF.cells {own : Nat → Nat} {W : World} {m a nb tp : Nat} {M : Mc} (HV : Vm own W m a nb tp M) {i sl : Nat} (hA : Alive M (some i) sl) (hi : i < M.th.length) {fb n cp pb : Nat} (h : PlF W m a M i fb n cp pb) : ∃ P sl base ns kk clo ad scp, PlC W m a M i fb n pb P sl base ns kk clo ad scp := by
  obtain ⟨r1, r2, r3, r4, r5, r6, r7⟩ := hA.runs hi
  have hfa := Th.f_at (t := M.t i) r2
  rw [h.len, Nat.add_sub_cancel] at hfa
  obtain ⟨_, f1, _, _, f2, _, f3, _⟩ := HV.frame hi h.fr hfa
  obtain ⟨pb', pn, pcp, cb, cn, ccp, d2, d6, _, _, _, _, p1, _, _, _, _, p2⟩ := HV.protoAt r4 (hA.clo r4).1
  obtain ⟨k, c, hk⟩ := h.pr
  rw [hk] at d2
  cases d2
  obtain ⟨ad, scp, s1, s2, _⟩ := HV.sk hi
  have hw := hA.st.win _ (hA.prc r4)
  have := hA.st.lks
  have := sk_bound hA hi
  exact ⟨_, _, _, _, _, _, ad, scp, s1, s2, f3, f2, p2.2.1, p2.2.2.2.2.1, r5, by omega, by omega, ⟨rfl, rfl, rfl, rfl, rfl, rfl⟩, f1, p1⟩
/-- How a callee that may fly ends, in the midst of a function. -/
theorem Rm.ou {own : Nat → Nat} {W w : World} {m a nb tp i : Nat} {B : List (Nat × Obj)} {M : Mc} (h : Rm own W m a nb tp i B M w) {α : Type} {o : Ou α} {val : α → Value} {en : Ending} {w' : World} {own1 : Nat → Nat} (hv : Vm own1 w m a nb tp M) (hn : ∀ M2 w2, Nf own1 w m a nb tp i M2 w2 → Rm own W m a nb tp i B M2 w2) (hx : ∀ M2 w2, Nx own1 w m a nb tp M2 w2 → Nx own W m a nb tp M2 w2) (hs : W.heap.size ≤ w.heap.size) (hE : OuEf own1 w m a nb tp i o val en w') : OuEf own W m a nb tp i o val en w' := by
  rcases hE with ⟨h1, h2, h3⟩ | ⟨h1, ⟨b, h2, h3, h4⟩, h5⟩ | ⟨h1, h2, h3⟩
  · exact .inl ⟨h1, h2, (hn _ _ h3).rn.nf rfl⟩
  · exact .inr (.inl ⟨h1, ⟨b, h2, Nat.le_trans hs h3, h4⟩, hx _ _ h5⟩)
  · exact .inr (.inr ⟨h1, h2, hx _ _ h3⟩)
/-- The machine in the midst, with all that a callee's end is turned by. -/
theorem Rm.vmO {own : Nat → Nat} {W w : World} {m a nb tp i : Nat} {B : List (Nat × Obj)} {M : Mc} (h : Rm own W m a nb tp i B M w) : ∃ own1, Vm own1 w m a nb tp M ∧ (∀ M2 w2, Nf own1 w m a nb tp i M2 w2 → Rm own W m a nb tp i B M2 w2) ∧ (∀ {α : Type} {o : Ou α} {val : α → Value} {en : Ending} {w' : World}, OuEf own1 w m a nb tp i o val en w' → OuEf own W m a nb tp i o val en w') := by
  obtain ⟨own1, h1, h2, h3, h4, h5⟩ := h.rn
  have hn : ∀ M2 w2, Nf own1 w m a nb tp i M2 w2 → Rm own W m a nb tp i B M2 w2 := by
    rintro M2 w2 ⟨⟨own2, g1, g2, g3⟩, hf⟩
    have hs := h3.size
    exact ⟨own2, fun k hk => (g1 k (by omega)).trans (h1 k hk), g2, h3.trans g3 h1, fun b hB => ⟨(g3.block _ (heap_lt (h4 b hB).1) (h4 b hB).2.1).trans (h4 b hB).1, (g1 _ (heap_lt (h4 b hB).1)).trans (h4 b hB).2.1, (h4 b hB).2.2⟩, hf.trans h5⟩
  exact ⟨own1, h2, hn, fun hE => h.ou h2 hn (fun M2 w2 hx => Nx.trans h1 h3 hx) h3.size hE⟩
end Go.Proofs.Qxb6500293aGreatRR
