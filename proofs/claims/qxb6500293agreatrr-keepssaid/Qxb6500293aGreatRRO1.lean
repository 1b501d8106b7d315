import Derived.Test.Qxb6500293aGreatRRU1
import Derived.ProofKit
import Derived.OpenShut
import Derived.ShutString
import Derived.ChangeOld
import Derived.Below
import Derived.SizedLaws
import Derived.Deep.Slices
namespace Go.Proofs.Qxb6500293aGreatRR
open Go.ChangeShapes Go.WideShapes Go.ChangeAt Go.RowKit
open Go.ChangeMaps (open_string shut_string)
open Go.Deep

def I64 (i : Int) : Prop := -9223372036854775808 ≤ i ∧ i ≤ 9223372036854775807
/-- The k-th step of the script lies in memory. -/
def OpAt (w : World) (b off k : Nat) (K A B C : Int) (S T : List UInt8) : Prop :=
  w.cell? ⟨b, off + k * 6, none⟩ = some (.int .i64 K) ∧ w.cell? ⟨b, off + k * 6 + 1, none⟩ = some (.int .i64 A) ∧ w.cell? ⟨b, off + k * 6 + 2, none⟩ = some (.int .i64 B) ∧ w.cell? ⟨b, off + k * 6 + 3, none⟩ = some (.int .i64 C) ∧
  w.cell? ⟨b, off + k * 6 + 4, none⟩ = some (.string ⟨S.toArray⟩) ∧ w.cell? ⟨b, off + k * 6 + 5, none⟩ = some (.string ⟨T.toArray⟩) ∧ I64 K ∧ I64 A ∧ I64 B ∧ I64 C ∧ S.length ≤ 9223372036854775807 ∧ T.length ≤ 9223372036854775807
/-- What a law is told of the script: nil, or without a step, or its steps lie in memory. -/
def IsOps (w : World) (a : Option Addr) (len : Nat) : Prop :=
  len < 4398046511104 ∧ (len = 0 ∨ ∃ b off, a = some ⟨b, off, none⟩ ∧ b < w.heap.size ∧ ∀ k, k < len → ∃ K A B C S T, OpAt w b off k K A B C S T)
theorem OpAt.below {w w' : World} {b off k : Nat} {K A B C : Int} {S T : List UInt8} (h : OpAt w b off k K A B C S T) (hb : Below w.heap.size w w') (hlt : b < w.heap.size) : OpAt w' b off k K A B C S T := by
  unfold OpAt at *
  have hc : ∀ o, w'.cell? ⟨b, o, none⟩ = w.cell? ⟨b, o, none⟩ := fun o => hb.cell (p := ⟨b, o, none⟩) hlt
  simp only [hc]
  exact h

theorem Tryz.own : ownKnob Tryz.prog.godebug = none := by kernel_rfl
theorem Tryz.laidOut : laidOutB Tryz.prog = true := by kernel_rfl
theorem Tryz.cells37 : Tryz.prog.cellsOf 37 = 6 := by kernel_rfl
theorem Tryz.cells3 : Tryz.prog.cellsOf 3 = 1 := by kernel_rfl
theorem Tryz.cells9 : Tryz.prog.cellsOf 9 = 1 := by kernel_rfl
theorem Tryz.bytes37 : Tryz.prog.bytesOf 37 = 64 := by kernel_rfl

theorem i64_of_wf {n : Int} (h : (Lit.int .i64 n).wf = true) : I64 n := by
  simp [Lit.wf, IntKind.min, IntKind.max, IntKind.signed, IntKind.bits] at h
  exact ⟨by omega, by omega⟩

section
variable {H : Type} {enc : TypeId × Value → H} {w : World} {base : Nat} {spare : Nat → Bool} {held : Bool}
set_option maxRecDepth 4000 in
/-- A step's six cells. -/
theorem open_op {n : Nat} {cs : List Value} {x : DataW H × List MemPlace} (h : DataW.trod enc Tryz.prog w base spare held n 37 cs = some x) :
    ∃ (K A B C : Int) (S T : List UInt8), cs = [.int .i64 K, .int .i64 A, .int .i64 B, .int .i64 C, .string ⟨S.toArray⟩, .string ⟨T.toArray⟩] ∧ I64 K ∧ I64 A ∧ I64 B ∧ I64 C ∧ S.length ≤ maxLen ∧ T.length ≤ maxLen := by
  obtain ⟨xs, m, _, rfl, hl, hlen, hf⟩ := DataW.trod_struct Tryz.underlying37 h
  rw [Tryz.cells37] at hl
  match xs, hlen with
  | [y0, y1, y2, y3, y4, y5], _ =>
    match cs, hl with
    | [c0, c1, c2, c3, c4, c5], _ =>
      have g0 := hf 0 _ rfl
      have g1 := hf 1 _ rfl
      have g2 := hf 2 _ rfl
      have g3 := hf 3 _ rfl
      have g4 := hf 4 _ rfl
      have g5 := hf 5 _ rfl
      obtain ⟨K, e0, _, w0⟩ := DataW.trod_int Tryz.underlying3 g0
      obtain ⟨A, e1, _, w1⟩ := DataW.trod_int Tryz.underlying3 g1
      obtain ⟨B, e2, _, w2⟩ := DataW.trod_int Tryz.underlying3 g2
      obtain ⟨C, e3, _, w3⟩ := DataW.trod_int Tryz.underlying3 g3
      obtain ⟨S, e4, _, w4⟩ := DataW.trod_string Tryz.underlying9 g4
      obtain ⟨T, e5, _, w5⟩ := DataW.trod_string Tryz.underlying9 g5
      simp [Tryz.cells3] at e0 e1 e2 e3
      simp [Tryz.cells9] at e4 e5
      subst e0 e1 e2 e3 e4 e5
      exact ⟨K, A, B, C, S.data.toList, T.data.toList, by simp, i64_of_wf w0, i64_of_wf w1, i64_of_wf w2, i64_of_wf w3, by simpa using w4, by simpa using w5⟩
end

/-- The script, opened. -/
theorem open_ops {H : Type} {enc : TypeId × Value → H} {W : World} {a0 : Option Addr} {len cap : Nat} {d : DataW H} {ps : List MemPlace}
    (h : DataW.Trod enc Tryz.prog W 0 (fun _ => true) true 22 (.slice a0 len cap) d ps) (hsz : ∀ es sp, d = .slice es sp → (es.length + sp.length) * 64 ≤ reachBytes) : IsOps W a0 len := by
  obtain ⟨fuel, hf⟩ := h
  rcases open_slice Tryz.underlying22 hf with ⟨hcs, _⟩ | ⟨a, l, c, m, n, D, Pl, hcs, _, hl, hm, hmeq, hx, hel⟩
  · simp [Value.cells] at hcs
    obtain ⟨rfl, rfl, rfl⟩ := hcs
    exact ⟨by omega, .inl rfl⟩
  · simp [Value.cells] at hcs
    obtain ⟨rfl, rfl, rfl⟩ := hcs
    simp only [Prod.mk.injEq] at hx
    have hs := hsz _ _ hx.1
    simp only [if_true] at hmeq
    subst hmeq
    simp only [List.length_map, List.length_range, reachBytes] at hs
    refine ⟨by omega, ?_⟩
    rcases Nat.eq_zero_or_pos len with h0 | h0
    · exact .inl h0
    · right
      obtain ⟨b, off, spot⟩ := a
      rw [Tryz.cells37] at hel
      have key : ∀ k, k < len → ∃ (K A B C : Int) (S T : List UInt8), (∀ i, i < 6 → W.cell? ((⟨b, off, spot⟩ : Addr).add (k * 6 + i)) = [Value.int .i64 K, .int .i64 A, .int .i64 B, .int .i64 C, .string ⟨S.toArray⟩, .string ⟨T.toArray⟩][i]?) ∧ I64 K ∧ I64 A ∧ I64 B ∧ I64 C ∧ S.length ≤ maxLen ∧ T.length ≤ maxLen := by
        intro k hk
        obtain ⟨cs', h1, h2⟩ := hel k (by omega)
        obtain ⟨K, A, B, C, S, T, rfl, r⟩ := open_op h2
        refine ⟨K, A, B, C, S, T, ?_, r⟩
        intro i hi
        obtain ⟨_, h3, h4⟩ := World.cells?_some h1
        have := h4 i (by omega)
        rw [add_add] at this
        exact this
      obtain ⟨K0, A0, B0, C0, S0, T0, hc0, _⟩ := key 0 h0
      have hspot : spot = none := by
        have := hc0 0 (by omega)
        simp only [List.getElem?_cons_zero] at this
        simpa [Addr.add] using World.cell?_spot this
      subst hspot
      refine ⟨b, off, rfl, ?_, ?_⟩
      · have := hc0 0 (by omega)
        simp only [List.getElem?_cons_zero] at this
        rw [add_plain] at this
        unfold World.cell? at this
        simp only at this
        by_cases c : b < W.heap.size
        · exact c
        · rw [Array.getElem?_eq_none (by omega)] at this
          cases this
      · intro k hk
        obtain ⟨K, A, B, C, S, T, hc, iK, iA, iB, iC, lS, lT⟩ := key k hk
        simp only [add_plain] at hc
        unfold maxLen at lS lT
        refine ⟨K, A, B, C, S, T, ?_, ?_, ?_, ?_, ?_, ?_, iK, iA, iB, iC, by omega, by omega⟩
        · simpa using hc 0 (by omega)
        · simpa [Nat.add_assoc] using hc 1 (by omega)
        · simpa [Nat.add_assoc] using hc 2 (by omega)
        · simpa [Nat.add_assoc] using hc 3 (by omega)
        · simpa [Nat.add_assoc] using hc 4 (by omega)
        · simpa [Nat.add_assoc] using hc 5 (by omega)

end Go.Proofs.Qxb6500293aGreatRR
