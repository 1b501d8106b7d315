/-
  enter walked.
-/
import Derived.Test.Qxb6500293aGreatRRX14
namespace Go.Proofs.Qxb6500293aGreatRR
open Go.RowKit
set_option linter.unusedVariables false
set_option linter.unusedSimpArgs false

def lenV (v : Value) : Nat := match v with
  | .slice _ n _ => n
  | _ => 0
theorem pushP_pushP {M : Mc} {i : Nat} (hi : i < M.th.length) (xs ys : List V) : pushP (pushP M i xs) i ys = pushP M i (xs ++ ys) := by
  unfold pushP
  rw [t_setT hi, setT_setT]
  simp only [List.append_assoc]
/-- What the second loop of enter has at its head: j slots are laid. -/
structure EnAt (own : Nat → Nat) (W : World) (m a nb tp i : Nat) (M : Mc) (g : Nat → V) (pb P np ns ab k : Nat) (l : List V) (j : Nat) (wr : World) : Prop where
  nf : Nf own W m a nb tp i (pushP M i ((List.range j).map g)) wr
  av : ∀ q u, (l.flatMap valC)[q]? = some u → wr.cell? ⟨ab, k + q, none⟩ = some u
  lt : ab < wr.heap.size
  win : ∀ n cp, wr.cell? ⟨a, i * 5 + 2, none⟩ = some (.slice (some ⟨ab, 0, none⟩) n cp) → k + l.length * 3 ≤ n * 3
  p0 : wr.cell? ⟨pb, P * 8, none⟩ = some (i64 np)
  p1 : wr.cell? ⟨pb, P * 8 + 1, none⟩ = some (i64 ns)
theorem EnAt.step {own : Nat → Nat} {W : World} {m a nb tp i : Nat} {M : Mc} {g : Nat → V} {pb P np ns ab k : Nat} {l : List V} {j : Nat} {wr : World} (h : EnAt own W m a nb tp i M g pb P np ns ab k l j wr) (hi : i < M.th.length) (hsk : (M.t i).sk.length ≤ 10000) (hj : j ≤ 100) (hpb : pb < W.heap.size) (hpc : own pb = 401) (hab : ab ≠ a) (v : V) (hv : v = g j) :
    Calls Tryz.prog 60 #[.pointer (some ⟨a, i * 5, none⟩), .slice (some ⟨wr.heap.size, 0, none⟩) 1 1] (wr.alloc (.cells #[.int .i64 v.T, .int .u64 (v.N : Int), .string ⟨v.S.toArray⟩] 33)) fun e w' => e = .returned (.tuple #[]) ∧ EnAt own W m a nb tp i M g pb P np ns ab k l (j + 1) w' := by
  obtain ⟨⟨⟨own1, ho1, hv1, hch1⟩, hf1⟩, hav, hlt, hwin, hp0, hp1⟩ := h
  have hb1 : Below wr.heap.size wr (wr.alloc (.cells #[.int .i64 v.T, .int .u64 (v.N : Int), .string ⟨v.S.toArray⟩] 33)) := below_one _ _
  have hv2 := hv1.below hb1
  have hi1 : i < (pushP M i ((List.range j).map g)).th.length := by show i < (List.set _ _ _).length; rw [List.length_set]; exact hi
  have ht1 : (pushP M i ((List.range j).map g)).t i = { M.t i with sk := (M.t i).sk ++ (List.range j).map g } := t_setT hi _
  have hPK := push_keeps hv2 hi1 (by rw [ht1]; simp; omega) wr.heap.size 0 1 [v] (by simp) (by
    intro q u hu
    have h1 : (wr.alloc (.cells #[.int .i64 v.T, .int .u64 (v.N : Int), .string ⟨v.S.toArray⟩] 33)).heap[wr.heap.size]? = some (.cells #[.int .i64 v.T, .int .u64 (v.N : Int), .string ⟨v.S.toArray⟩] 33) := World.alloc_heap_new _ _
    rw [add_at, Nat.zero_add]
    simp only [World.cell?, h1]
    simpa [valC] using hu)
  obtain ⟨vals, L, H⟩ := hv1
  have halt := H.alt
  have ca : (wr.alloc (.cells #[.int .i64 v.T, .int .u64 (v.N : Int), .string ⟨v.S.toArray⟩] 33)).cell? ⟨a, i * 5 + 2, none⟩ = wr.cell? ⟨a, i * 5 + 2, none⟩ := hb1.cell (p := ⟨a, i * 5 + 2, none⟩) halt
  obtain ⟨c2, hrow, hcol⟩ := H.skRow hi1
  have hpb1 : own1 pb = 401 := (ho1 pb hpb).trans hpc
  have hpbw : pb < wr.heap.size := Nat.lt_of_lt_of_le hpb hch1.size
  have hpa : pb ≠ a := by
    rintro rfl
    have := H.ac
    omega
  have hpk : ∀ n cp, ¬ wr.cell? ⟨a, i * 5 + 2, none⟩ = some (.slice (some ⟨pb, 0, none⟩) n cp) := by
    intro n cp e
    rw [c2] at e
    have e2 := Option.some.inj e
    have h3 : own1 pb = 409 + 3 * i := hcol pb (by rw [e2]; rfl)
    omega
  have hsz := hb1.size
  refine hPK.mono ?_
  rintro e w' ⟨rfl, hN, hQ, hK⟩
  refine ⟨rfl, ⟨⟨?_, ?_⟩, ?_, ?_, ?_, ?_, ?_⟩⟩
  · have h2 := Nx.trans ho1 (hch1.below hb1) hN.1
    rw [pushP_pushP hi] at h2
    rw [List.range_succ, List.map_append, List.map_singleton, ← hv]
    exact h2
  · exact hN.2.trans ((hb1.cell (p := ⟨a, i * 5 + 3, none⟩) halt).trans hf1)
  · intro q u hu
    rw [hK ab (k + q) (by omega) hab (fun n cp e => by
      rw [ca] at e
      have := hwin n cp e
      have hq := (List.getElem?_eq_some_iff.1 hu).1
      rw [flat_len valC 3 valC_len] at hq
      omega)]
    exact (hb1.cell (p := ⟨ab, k + q, none⟩) hlt).trans (hav q u hu)
  · obtain ⟨own2, _, _, hch2⟩ := hN.1
    have := hch2.size
    omega
  · intro n cp e
    rcases hQ ab n cp e with h | ⟨n0, cp0, h, hn⟩
    · omega
    · rw [ca] at h
      have := hwin n0 cp0 h
      omega
  · rw [hK pb (P * 8) (by omega) hpa (fun n cp e => absurd (ca.symm.trans e) (hpk n cp))]
    exact (hb1.cell (p := ⟨pb, P * 8, none⟩) hpbw).trans hp0
  · rw [hK pb (P * 8 + 1) (by omega) hpa (fun n cp e => absurd (ca.symm.trans e) (hpk n cp))]
    exact (hb1.cell (p := ⟨pb, P * 8 + 1, none⟩) hpbw).trans hp1
end Go.Proofs.Qxb6500293aGreatRR
