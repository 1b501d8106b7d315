/-
  THE PLAIN SIDE OF migrate, AND APPENDS AS EQUATIONS.
-/
import Derived.Test.Qxb6500293aGreatRRT10
import Derived.Maps.AppendAt
namespace Go.Proofs.Qxb6500293aGreatRR
open Go.RowKit
open Ieee (double)
set_option linter.unusedVariables false
set_option linter.unusedSimpArgs false

theorem info21 : (Tryz.prog.info? 21).map (fun i => (i.zero, i.size, i.bytes)) = some (some (.int .i32 0), 1, 4) := by kernel_rfl
def zEnt : Value := .agg #[.int .i64 0, .int .u64 0, .string ⟨#[]⟩, .int .i64 0, .int .u64 0, .string ⟨#[]⟩]
theorem info104 : (Tryz.prog.info? 108).map (fun i => (i.zero, i.size, i.bytes)) = some (some zEnt, 6, 64) := by kernel_rfl

/-- 't.arr = append(t.arr, p)'. -/
theorem append_arr {w : World} {va : Value} {n : Nat} {xs : List Value} (h : w.ownsRow 0 21 1 va n xs) (hn : n ≤ 64) (p : Int) (ty : TypeId) :
    ∃ g c w', (Builtin.append_ #[101, 101] ty #[va, .slice (some ⟨w.heap.size, 0, none⟩) 1 1]).run Tryz.prog (w.alloc (.cells #[.int .i32 p] 21)) = .ok (.slice (some ⟨g, 0, none⟩) (n + 1) c) w' ∧ w'.ownsRow 0 21 1 (.slice (some ⟨g, 0, none⟩) (n + 1) c) (n + 1) (xs ++ [.int .i32 p]) ∧
      w.grownBy w' va.ownBlock ∧ (va.ownBlock = some g ∨ g = w.heap.size + 1) := by
  obtain ⟨i0, hi, hz0, hz1, hz2⟩ := info_parts info21
  obtain ⟨v', w', hr, h2, h3, h4, h5⟩ := run_append_own_at (P := Tryz.prog) (w.alloc (.cells #[.int .i32 p] 21)) 0 101 ty 21 i0 (.int .i32 0) 1 4 Tryz.underlying101 hi hz0 hz1 hz2 rfl (by decide) va n xs (h.alloc _) ⟨w.heap.size, 0, none⟩ 1 1 [.int .i32 p] rfl (cell_one_new _ _ _) (by simp [Value.oneCell']) (by unfold maxLen; omega) (by omega) (Nat.zero_le _)
  rcases h2.2 with ⟨_, hx⟩ | ⟨g, cap, cur, rfl, _⟩
  · omega
  refine ⟨g, cap, w', hr, h2, grown_trans (World.grownBy_alloc w _ _) h3, ?_⟩
  rcases h5 with h5 | h5
  · left; rw [← h5]; rfl
  · right; simp [Value.ownBlock] at h5; exact h5
theorem cell_six_new (w : World) (a b c d e f : Value) (t : TypeId) : ∀ j u, [a, b, c, d, e, f][j]? = some u → (w.alloc (.cells #[a, b, c, d, e, f] t)).cell? ((⟨w.heap.size, 0, none⟩ : Addr).add j) = some u := by
  intro j u hj
  have h1 : (w.alloc (.cells #[a, b, c, d, e, f] t)).heap[w.heap.size]? = some (.cells #[a, b, c, d, e, f] t) := by
    show (w.heap.push _)[_]? = _
    simp
  have h2 : ((⟨w.heap.size, 0, none⟩ : Addr).add j) = ⟨w.heap.size, j, none⟩ := by simp [Addr.add]; intro h; rw [h]
  rw [h2]
  simp only [World.cell?, h1]
  simpa using hj
/-- 't.order = append(t.order, entry{..})'. -/
theorem append_ord {w : World} {vo : Value} {n : Nat} {xs : List Value} (h : w.ownsRow 0 108 6 vo n xs) (hn : n ≤ 64) (k v : V) (ty : TypeId) :
    ∃ g c w', (Builtin.append_ #[100, 100] ty #[vo, .slice (some ⟨w.heap.size, 0, none⟩) 1 1]).run Tryz.prog (w.alloc (.cells #[.int .i64 k.T, .int .u64 k.N, .string ⟨k.S.toArray⟩, .int .i64 v.T, .int .u64 v.N, .string ⟨v.S.toArray⟩] 108)) = .ok (.slice (some ⟨g, 0, none⟩) (n + 1) c) w' ∧ w'.ownsRow 0 108 6 (.slice (some ⟨g, 0, none⟩) (n + 1) c) (n + 1) (xs ++ entC (k, v)) ∧
      w.grownBy w' vo.ownBlock ∧ (vo.ownBlock = some g ∨ g = w.heap.size + 1) := by
  obtain ⟨i0, hi, hz0, hz1, hz2⟩ := info_parts info104
  obtain ⟨v', w', hr, h2, h3, h4, h5⟩ := run_append_own_at (P := Tryz.prog) (w.alloc (.cells #[.int .i64 k.T, .int .u64 k.N, .string ⟨k.S.toArray⟩, .int .i64 v.T, .int .u64 v.N, .string ⟨v.S.toArray⟩] 108)) 0 100 ty 108 i0 zEnt 6 64 Tryz.underlying100 hi hz0 hz1 hz2 rfl (by decide) vo n xs (h.alloc _) ⟨w.heap.size, 0, none⟩ 1 1 (entC (k, v)) rfl (cell_six_new _ _ _ _ _ _ _ _) (by simp [entC, Value.oneCell']) (by unfold maxLen; omega) (by omega) (Nat.zero_le _)
  rcases h2.2 with ⟨_, hx⟩ | ⟨g, cap, cur, rfl, _⟩
  · omega
  refine ⟨g, cap, w', hr, h2, grown_trans (World.grownBy_alloc w _ _) h3, ?_⟩
  rcases h5 with h5 | h5
  · left; rw [← h5]; rfl
  · right; simp [Value.ownBlock] at h5; exact h5

/-! ### plain -/
theorem MapAt.empty {kt : TypeId} {w : World} {b : Nat} {f : Lit → Option Nat} (h : MapAt kt w b 0 f) (kl : Lit) : f kl = none := by
  obtain ⟨D, h1, h2, h3, h4⟩ := h
  have hh := h3 kl
  obtain ⟨es, rfl⟩ := h1.isMap
  rw [Maps.size_eq] at h2
  have : es = [] := List.eq_nil_of_length_eq_zero h2
  subst this
  simpa [Maps.has_eq] using hh.symm
theorem MapAt.pos {kt : TypeId} {w : World} {b n : Nat} {f : Lit → Option Nat} (h : MapAt kt w b n f) {kl : Lit} (hk : (f kl).isSome = true) : 1 ≤ n := by
  rcases Nat.eq_zero_or_pos n with h0 | h0
  · subst h0; rw [h.empty kl] at hk; cases hk
  · exact h0
theorem inArr_fl {n j : Nat} (hj : j ≤ 34) : inArr n (fl j) = (decide (1 ≤ j) && decide (j ≤ n)) := by
  unfold inArr
  rw [(fl_small j hj).1]
  congr 1
  · rw [Bool.eq_iff_iff]; simp; omega
  · rw [Bool.eq_iff_iff]; simp
theorem nums_fl {t : Tbl} {n j : Nat} (hj : j ≤ 34) (hn : n < j) : numsF t n (.int .u64 (fl j : Int)) = idx t (numKey j) := by
  unfold numsF
  simp only [Int.toNat_natCast]
  rw [if_pos ⟨by omega, by rw [inArr_fl hj]; simp; omega⟩, numKey]
theorem fl_inj {i j : Nat} (hi : i ≤ 34) (hj : j ≤ 34) (h : fl i = fl j) : i = j := by
  have h1 := (fl_small i hi).1
  have h2 := (fl_small j hj).1
  rw [h] at h1
  omega
theorem numsF_int (t : Tbl) (n : Nat) (x : Int) : numsF t n (.int .u64 x) = if 0 ≤ x ∧ inArr n x.toNat = false then idx t ⟨2, x.toNat, []⟩ else none := rfl
theorem numsF_other (t : Tbl) (n : Nat) {l : Lit} (h : ∀ x, l ≠ .int .u64 x) : numsF t n l = none := by
  unfold numsF
  split
  · exact absurd rfl (h _)
  · rfl
theorem inArr_next {n N : Nat} (hN : N < 18446744073709551616) (h : N ≠ fl (n + 1)) : inArr (n + 1) N = inArr n N := by
  have h2 : toIntV N ≠ ((n + 1 : Nat) : Int) := fun e => h (toInt_fl hN (by omega) e)
  unfold inArr
  generalize toIntV N = I at *
  by_cases c : 1 ≤ I
  · by_cases d : I ≤ (n : Int)
    · rw [decide_eq_true c, decide_eq_true d, decide_eq_true (by omega)]
    · rw [decide_eq_true c, decide_eq_false d, decide_eq_false (by omega)]
  · rw [decide_eq_false c]; rfl
theorem idx_big {t : Tbl} (hi : ∀ e ∈ t, KeyOk e.1) {N : Nat} (hN : ¬ N < 18446744073709551616) : idx t ⟨2, N, []⟩ = none := by
  cases hx : idx t ⟨2, N, []⟩ with
  | none => rfl
  | some p =>
    obtain ⟨e, h1, h2⟩ := idx_some hx
    have := (hi e (List.mem_of_getElem? h1)).N
    rw [h2] at this
    exact absurd this hN
/-- A key more in the array part: the number map without it. -/
theorem nums_next {t : Tbl} (hi : ∀ e ∈ t, KeyOk e.1) {n : Nat} (hn : n + 1 ≤ 34) : numsF t (n + 1) = setK (numsF t n) (.int .u64 (fl (n + 1) : Int)) none := by
  funext l
  by_cases c : l = .int .u64 (fl (n + 1) : Int)
  · rw [c, setK_same (by trivial), numsF_int, Int.toNat_natCast, inArr_fl hn, if_neg]
    rintro ⟨_, h⟩
    simp at h
  · rw [setK_other c]
    by_cases hl : ∃ x, l = .int .u64 x
    · obtain ⟨x, rfl⟩ := hl
      rw [numsF_int, numsF_int]
      by_cases h0 : 0 ≤ x
      · obtain ⟨N, rfl⟩ : ∃ N : Nat, x = (N : Int) := ⟨x.toNat, by omega⟩
        rw [Int.toNat_natCast]
        by_cases hN : N < 18446744073709551616
        · rw [inArr_next hN (fun e => c (by rw [e]))]
        · rw [idx_big hi hN]; simp
      · rw [if_neg (fun h => h0 h.1), if_neg (fun h => h0 h.1)]
    · have hl' : ∀ x, l ≠ .int .u64 x := fun x e => hl ⟨x, e⟩
      rw [numsF_other _ _ hl', numsF_other _ _ hl']
theorem inv_snoc {t : Tbl} {a : List Nat} (hi : Inv t a) {p : Nat} (hp : idx t (numKey (a.length + 1)) = some p) : Inv t (a ++ [p]) where
  len := hi.len
  one := hi.one
  keys := hi.keys
  vals := hi.vals
  arr := by
    intro i h
    rw [List.length_append, List.length_singleton] at h
    by_cases c : i < a.length
    · obtain ⟨q, e, h1, h2, h3⟩ := hi.arr i c
      exact ⟨q, e, by rw [List.getElem?_append_left c]; exact h1, h2, h3⟩
    · have : i = a.length := by omega
      subst this
      obtain ⟨e, h1, h2⟩ := idx_some hp
      exact ⟨p, e, by rw [List.getElem?_append_right (Nat.le_refl _)]; simp, h1, h2⟩
end Go.Proofs.Qxb6500293aGreatRR
