import Derived.Test.Qxb6500293aGreatRRT23
namespace Go.Proofs.Qxb6500293aGreatRR
open Go.RowKit Go.Shelf
set_option linter.unusedVariables false
set_option linter.unusedSimpArgs false

/-- CheckMid's array of places seen. -/
structure SeenAt (w : World) (s : Nat) (bl : List Bool) : Prop where
  blk : w.heap[s]? = some (.cells (bl.map Value.bool).toArray 134)
  len : bl.length = 32
theorem SeenAt.lt {w : World} {s : Nat} {bl : List Bool} (h : SeenAt w s bl) : s < w.heap.size := (Array.getElem?_eq_some_iff.1 h.blk).1
theorem SeenAt.cell {w : World} {s : Nat} {bl : List Bool} (h : SeenAt w s bl) {p : Nat} {b : Bool} (hb : bl[p]? = some b) : w.cell? ⟨s, p, none⟩ = some (.bool b) ∧ w.frozen? ⟨s, p, none⟩ = false := by
  simp [World.cell?, World.frozen?, h.blk, hb]
theorem SeenAt.kept {w w' : World} {s : Nat} {bl : List Bool} (h : SeenAt w s bl) (e : w'.heap[s]? = w.heap[s]?) : SeenAt w' s bl := ⟨e.trans h.blk, h.len⟩
theorem SeenAt.set {w : World} {s : Nat} {bl : List Bool} (h : SeenAt w s bl) (p : Nat) (b : Bool) : SeenAt (w.setCell ⟨s, p, none⟩ (.bool b)) s (bl.set p b) := by
  refine ⟨?_, by rw [List.length_set]; exact h.len⟩
  rw [heap_setCell_same h.blk]
  simp [List.map_set]
theorem grown_set {w w' : World} {s p : Nat} (h : w.grownBy w' (some s)) (v : Value) : w.grownBy (w'.setCell ⟨s, p, none⟩ v) (some s) :=
  ⟨h.os, h.tape, h.output, by simpa using h.size, fun k hk hn => (Below.heap_setCell _ _ _ k (fun e => hn (by rw [e]))).trans (h.block k hk hn)⟩
theorem grown_drew {w w' : World} {b : Option Nat} (h : w.grownBy w' b) (m : Nat) : w.grownBy (w'.drewN m) b := ⟨h.os, h.tape, h.output, h.size, h.block⟩

set_option maxRecDepth 8000 in
set_option maxHeartbeats 3200000 in
/-- **points** names a place that holds the key and was not named before. -/
theorem points_any (own : Nat → Nat) (A h : Nat) (r : TabR) (w : World) (s : Nat) (bl : List Bool) (p : Nat) (k v : V) (ht : TabAt own w A h r) (hs : SeenAt w s bl) (hA : A ≠ s) (hord : ∀ g, r.vo.ownBlock = some g → g ≠ s) (hp : r.t[p]? = some (k, v)) (hb : bl[p]? = some false) :
    Calls Tryz.prog 63 #[.pointer (some ⟨A, h * 6, none⟩), .int .i32 (p : Int), valV k, .pointer (some ⟨s, 0, none⟩)] w fun e w' => e = .returned (.bool true) ∧ SeenAt w' s (bl.set p true) ∧ w.grownBy w' (some s) := by
  obtain ⟨c0, c1, c2, c3, c4, c5, fz, lt, rep⟩ := ht
  have hl32 := rep.inv.len
  have hpl : p < r.t.length := (List.getElem?_eq_some_iff.1 hp).1
  have cc := fun j hj => flat6 entC entC_len r.t p (k, v) hp j hj
  obtain ⟨g, c, hv, hc, hg, k0⟩ := row_cell rep.ord (cc 0 (by omega))
  obtain ⟨g1, c1', hv1, _, _, k1⟩ := row_cell rep.ord (cc 1 (by omega))
  obtain ⟨g2, c2', hv2, _, _, k2⟩ := row_cell rep.ord (cc 2 (by omega))
  rw [hv] at hv1 hv2
  cases hv1; cases hv2
  have hgs : g ≠ s := hord g (by rw [hv]; rfl)
  rw [hv] at c0
  obtain ⟨s0, s1⟩ := hs.cell hb
  have hslt := hs.lt
  obtain ⟨T, N, S⟩ := k
  have HEND : Hid (SeenAt w s bl) := hs
  simp only [entC, List.getElem?_cons_zero, List.getElem?_cons_succ] at k0 k1 k2
  have n1 : ¬ s = w.heap.size := by omega
  have n2 : ¬ A = w.heap.size := by omega
  have n3 : ¬ g = w.heap.size := by omega
  have d1 : decide ((p : Int) < 0) = false := decide_eq_false (by omega)
  have d2 : decide ((r.t.length : Int) ≤ (p : Int)) = false := decide_eq_false (by omega)
  have hp32 : p < 32 := by omega
  generalize r.t.length = tl at *
  rw [valV_mk]
  simp only [Nat.add_zero] at k0
  clear cc hs rep c1 c2 c3 c4 c5 fz hv hord hp hb
  go_enter Tryz.func63, Tryz.ntmps63
  go_wp2_with fail
  go_quiet (fail)
  go_wp2
  go_ret
  refine ⟨rfl, ?_, grown_drew ?_ _⟩
  · refine (HEND.out.set p true).kept ?_
    rw [heap_drewN]
    exact Below.heap_alloc _ _ _ (by simpa using hslt)
  · exact grown_trans (grown_set ⟨rfl, rfl, rfl, Nat.le_refl _, fun _ _ _ => rfl⟩ _) (World.grownBy_alloc _ _ _)

/-- A key's word and the key. -/
theorem pack_parts {k : V} (hk : wfB k = true) (h2 : k.T ≠ 2) (h3 : k.T ≠ 3) : 0 ≤ k.T ∧ k.T ≤ 7 ∧ k.N < 4294967296 ∧ k.S = [] := by
  unfold wfB at hk
  rw [if_neg h3] at hk
  split at hk
  · rename_i hc
    simp only [Bool.and_eq_true, decide_eq_true_eq] at hc
    obtain ⟨hS, h0, h7⟩ := hc
    refine ⟨h0, h7, ?_, hS⟩
    split at hk
    · simp at hk; omega
    · split at hk
      · simp at hk; omega
      · split at hk
        · simp at hk; omega
        · split at hk
          · simpa using hk
          · omega
  · cases hk
theorem uand_32 (x : Nat) (hx : x < 18446744073709551616) : bits .and .u64 (x : Int) 4294967295 = ((x % 4294967296 : Nat) : Int) := by
  have := u64_and_nat x 4294967295 hx (by omega)
  rw [show x &&& 4294967295 = x % 4294967296 from Nat.and_two_pow_sub_one_eq_mod x 32] at this
  exact this
theorem unpack_any (k : V) (w : World) (hk : wfB k = true) (h2 : k.T ≠ 2) (h3 : k.T ≠ 3) : Calls Tryz.prog 66 #[.int .u64 (packN k : Int)] w fun e w' => e = .returned (valV k) ∧ Below w.heap.size w w' := by
  obtain ⟨a1, a2, a3, a4⟩ := pack_parts hk h2 h3
  obtain ⟨T, N, S⟩ := k
  simp only at a1 a2 a3 a4
  subst a4
  obtain ⟨n, rfl⟩ : ∃ n : Nat, T = (n : Int) := ⟨T.toNat, by omega⟩
  rw [valV_mk]
  unfold packN
  simp only [Int.toNat_natCast]
  have q1 : ((n : Int) * 4294967296 + (N : Int)) / 4294967296 = (n : Int) := by omega
  have q2 : bits .and .u64 ((n : Int) * 4294967296 + (N : Int)) 4294967295 = (N : Int) := by
    have e : ((n * 4294967296 + N : Nat) : Int) = (n : Int) * 4294967296 + (N : Int) := by omega
    rw [← e, uand_32 (n * 4294967296 + N) (by omega)]
    congr 1
    omega
  go_enter Tryz.func66, Tryz.ntmps66
  go_wp2
  refine bodyPost_ret (v := .agg #[.int .i64 n, .int .u64 N, .string ⟨#[]⟩]) (by simp [results, go_sem]) rfl ?_
  exact ⟨rfl, below_one _ _⟩
end Go.Proofs.Qxb6500293aGreatRR
