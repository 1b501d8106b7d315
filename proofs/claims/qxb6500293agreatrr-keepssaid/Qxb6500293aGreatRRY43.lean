/-
  loop: what its walk needs.
-/
import Derived.Test.Qxb6500293aGreatRRY42
namespace Go.Proofs.Qxb6500293aGreatRR
open Go.RowKit
open Ieee (double)
set_option linter.unusedVariables false
set_option linter.unusedSimpArgs false

/-- What the loop reads at the head of a round. -/
structure LpC (w : World) (m a : Nat) (M : Mc) (i fb n cp pb pn pcp cb cn ccp clo P pc base ns nc co : Nat) : Prop where
  fr : w.cell? ⟨a, i * 5 + 3, none⟩ = some (.slice (some ⟨fb, 0, none⟩) (n + 1) cp)
  frl : n + 1 ≤ cp
  m2 : w.cell? ⟨m, 2, none⟩ = some (.slice (some ⟨pb, 0, none⟩) pn pcp)
  m6 : w.cell? ⟨m, 6, none⟩ = some (.slice (some ⟨cb, 0, none⟩) cn ccp)
  c0 : w.cell? ⟨cb, clo * 3, none⟩ = some (i64 P)
  f0 : w.cell? ⟨fb, n * 5, none⟩ = some (i64 clo)
  f1 : w.cell? ⟨fb, n * 5 + 1, none⟩ = some (i64 pc)
  f2 : w.cell? ⟨fb, n * 5 + 2, none⟩ = some (i64 base)
  p1 : w.cell? ⟨pb, P * 8 + 1, none⟩ = some (i64 ns)
  p6 : w.cell? ⟨pb, P * 8 + 6, none⟩ = some (i64 co)
  p7 : w.cell? ⟨pb, P * 8 + 7, none⟩ = some (i64 nc)
  hclo : clo < cn
  hP : P < pn
  al : a < w.heap.size
  ml : m < w.heap.size
  fbl : fb < w.heap.size
  pbl : pb < w.heap.size
  cbl : cb < w.heap.size
  fz : w.frozen? ⟨fb, n * 5 + 1, none⟩ = false
  b1 : cn ≤ 24
  b2 : pn ≤ 13
  b3 : pc ≤ 65535
  b4 : nc ≤ 65535
  b5 : co + nc ≤ 40000
  b6 : n ≤ 7
  fba : fb ≠ a
  eq : Hid ((M.t i).fr.length = n + 1 ∧ clo = (M.t i).f.clo ∧ P = (M.c (M.t i).f.clo).p ∧ pc = (M.t i).f.pc ∧ base = (M.t i).f.base ∧ ns = (M.p (M.t i).f.clo).ns ∧ nc = (M.p (M.t i).f.clo).nc ∧ co = (M.p (M.t i).f.clo).co)
theorem Vm.lpC {own : Nat → Nat} {w : World} {m a nb tp : Nat} {M : Mc} (HV : Vm own w m a nb tp M) {i : Nat} (hA : Alive M (some i)) (hi : i < M.th.length) : ∃ fb n cp pb pn pcp cb cn ccp clo P pc base ns nc co, LpC w m a M i fb n cp pb pn pcp cb cn ccp clo P pc base ns nc co := by
  obtain ⟨r1, r2, r3, r4, r5, r6, r7⟩ := hA.runs hi
  obtain ⟨n, hn⟩ : ∃ n, (M.t i).fr.length = n + 1 := ⟨(M.t i).fr.length - 1, by omega⟩
  obtain ⟨fb, cp, hfr, hcp⟩ : ∃ fb cp, w.cell? ⟨a, i * 5 + 3, none⟩ = some (.slice (some ⟨fb, 0, none⟩) (n + 1) cp) ∧ n + 1 ≤ cp := by
    obtain ⟨vals, L, H⟩ := HV
    obtain ⟨c3, frow, fcol⟩ := H.frRow hi
    rcases frow.2 with ⟨h1, h0⟩ | ⟨g, cap, cur, h1, _, _, hnc, _⟩
    · omega
    · exact ⟨g, cap, by rw [c3, h1, hn], by omega⟩
  have hfa := Th.f_at (t := M.t i) r2
  rw [hn, Nat.add_sub_cancel] at hfa
  obtain ⟨_, f1, _, fz, f2, f3, f4, _⟩ := HV.frame hi hfr hfa
  obtain ⟨pb, pn, pcp, cb, cn, ccp, d2, d6, e1, e2, e3, e4, p1, c1, _, _, ⟨c2, c3, c4⟩, ⟨q0, q1, q2, q3, q4, q5, q6, q7⟩⟩ := HV.protoAt r4 (hA.clo r4).1
  obtain ⟨_, _, qm⟩ := HV.cellM (Below.refl _ _)
  have hpe := hA.st.each _ (hA.prc r4)
  have hpw := hA.st.win _ (hA.prc r4)
  have hlc := hA.st.lco
  have h24 := hA.cl.cs24
  have h13 := hA.st.pr13
  exact ⟨fb, n, cp, pb, pn, pcp, cb, cn, ccp, (M.t i).f.clo, (M.c (M.t i).f.clo).p, (M.t i).f.pc, (M.t i).f.base, (M.p (M.t i).f.clo).ns, (M.p (M.t i).f.clo).nc, (M.p (M.t i).f.clo).co, hfr, hcp, d2, d6, c2, f2, f3, f4, q1, q6, q7, by omega, by have := (hA.clo r4).1; omega, HV.alt, qm, f1, p1, c1, fz _, by omega, by omega, by omega, by omega, by omega, by omega, fun e => (HV.fna hi hfr).1 e.symm, hn, rfl, rfl, rfl, rfl, rfl, rfl, rfl⟩
theorem LpC.drew {w : World} {m a : Nat} {M : Mc} {i fb n cp pb pn pcp cb cn ccp clo P pc base ns nc co : Nat} (h : LpC w m a M i fb n cp pb pn pcp cb cn ccp clo P pc base ns nc co) (q : Nat) : LpC (w.drewN q) m a M i fb n cp pb pn pcp cb cn ccp clo P pc base ns nc co :=
  ⟨h.fr, h.frl, h.m2, h.m6, h.c0, h.f0, h.f1, h.f2, h.p1, h.p6, h.p7, h.hclo, h.hP, h.al, h.ml, h.fbl, h.pbl, h.cbl, h.fz, h.b1, h.b2, h.b3, h.b4, h.b5, h.b6, h.fba, h.eq⟩
theorem effQ_eq {op : Nat} (x : Nat) (h : op ≠ 26) : effQ op = effP op x := by
  unfold effQ effP
  simp only [h, if_false]
theorem effQ_le (op : Nat) : -3 ≤ (effQ op).1 ∧ (effQ op).1 ≤ 3 ∧ -3 ≤ (effQ op).2 ∧ (effQ op).2 ≤ 3 := by
  unfold effQ
  split
  · decide
  · rename_i h
    unfold effP
    simp only [h, if_false]
    repeat' split
    all_goals decide
end Go.Proofs.Qxb6500293aGreatRR
