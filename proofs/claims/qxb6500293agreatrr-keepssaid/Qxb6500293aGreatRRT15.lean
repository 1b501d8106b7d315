/-
  A NEW PLACE: the list grown by one; what each index must then hold.
-/
import Derived.Test.Qxb6500293aGreatRRT13
namespace Go.Proofs.Qxb6500293aGreatRR
open Go.RowKit
open Ieee (double)
set_option linter.unusedVariables false
set_option linter.unusedSimpArgs false

theorem idx_snoc {t : Tbl} {k : V} (v : V) (hn : idx t k = none) (x : V) : idx (t ++ [(k, v)]) x = @ite (Option Nat) (x = k) (decV x k) (some t.length) (idx t x) := by
  unfold idx at *
  rw [List.findIdx?_append]
  by_cases c : x = k
  · subst c
    rw [if_pos rfl, hn]
    simp [List.findIdx?_cons, eqV_self]
  · rw [if_neg c]
    have : eqV k x = false := (eqV_no _ _).2 fun e => c e.symm
    simp [List.findIdx?_cons, this]
theorem nums_snoc {t : Tbl} {k : V} (v : V) (hn : idx t k = none) {n : Nat} (h2 : k.T = 2) (hS : k.S = []) (ha : inArr n k.N = false) : numsF (t ++ [(k, v)]) n = setK (numsF t n) (.int .u64 (k.N : Int)) (some t.length) := by
  obtain ⟨T, N, S⟩ := k
  simp only at *
  subst h2 hS
  funext l
  by_cases c : l = .int .u64 (N : Int)
  · rw [c, setK_same (by trivial), numsF_int, Int.toNat_natCast, if_pos ⟨by omega, ha⟩, idx_snoc v hn, if_pos rfl]
  · rw [setK_other c]
    by_cases hl : ∃ x, l = .int .u64 x
    · obtain ⟨x, rfl⟩ := hl
      rw [numsF_int, numsF_int, idx_snoc v hn]
      by_cases h0 : 0 ≤ x ∧ inArr n x.toNat = false
      · rw [if_pos h0, if_pos h0, if_neg]
        intro e
        injection e with _ e _
        exact c (by rw [← e]; congr 1; omega)
      · rw [if_neg h0, if_neg h0]
    · have hl' : ∀ x, l ≠ .int .u64 x := fun x e => hl ⟨x, e⟩
      rw [numsF_other _ _ hl', numsF_other _ _ hl']
theorem nums_snoc_other {t : Tbl} {k : V} (v : V) (hn : idx t k = none) {n : Nat} (h2 : k.T ≠ 2) : numsF (t ++ [(k, v)]) n = numsF t n := by
  funext l
  by_cases hl : ∃ x, l = .int .u64 x
  · obtain ⟨x, rfl⟩ := hl
    rw [numsF_int, numsF_int, idx_snoc v hn, if_neg (show ¬ (⟨2, x.toNat, []⟩ : V) = k from fun e => h2 (by rw [← e]))]
  · have hl' : ∀ x, l ≠ .int .u64 x := fun x e => hl ⟨x, e⟩
    rw [numsF_other _ _ hl', numsF_other _ _ hl']
theorem strsF_str (t : Tbl) (l : List UInt8) : strsF t (.string l) = idx t ⟨3, 0, l⟩ := rfl
theorem strsF_other (t : Tbl) {l : Lit} (h : ∀ x, l ≠ .string x) : strsF t l = none := by
  unfold strsF
  split
  · exact absurd rfl (h _)
  · rfl
theorem strs_snoc {t : Tbl} {k : V} (v : V) (hn : idx t k = none) (h3 : k.T = 3) (hN : k.N = 0) : strsF (t ++ [(k, v)]) = setK (strsF t) (.string k.S) (some t.length) := by
  obtain ⟨T, N, S⟩ := k
  simp only at *
  subst h3 hN
  funext l
  by_cases c : l = .string S
  · rw [c, setK_same (by trivial), strsF_str, idx_snoc v hn, if_pos rfl]
  · rw [setK_other c]
    by_cases hl : ∃ x, l = .string x
    · obtain ⟨x, rfl⟩ := hl
      rw [strsF_str, strsF_str, idx_snoc v hn, if_neg]
      intro e; injection e with _ _ e; exact c (by rw [e])
    · have hl' : ∀ x, l ≠ .string x := fun x e => hl ⟨x, e⟩
      rw [strsF_other _ hl', strsF_other _ hl']
theorem strs_snoc_other {t : Tbl} {k : V} (v : V) (hn : idx t k = none) (h3 : k.T ≠ 3) : strsF (t ++ [(k, v)]) = strsF t := by
  funext l
  by_cases hl : ∃ x, l = .string x
  · obtain ⟨x, rfl⟩ := hl
    rw [strsF_str, strsF_str, idx_snoc v hn, if_neg]
    intro e; exact h3 (by rw [← e])
  · have hl' : ∀ x, l ≠ .string x := fun x e => hl ⟨x, e⟩
    rw [strsF_other _ hl', strsF_other _ hl']
theorem refsF_int (t : Tbl) (x : Int) : refsF t (.int .u64 x) = t.findIdx? (fun e => decide (e.1.T ≠ 2) && (decide (e.1.T ≠ 3) && decide ((packN e.1 : Int) = x))) := rfl
theorem refsF_other (t : Tbl) {l : Lit} (h : ∀ x, l ≠ .int .u64 x) : refsF t l = none := by
  unfold refsF
  split
  · exact absurd rfl (h _)
  · rfl
theorem refs_snoc_other {t : Tbl} {k : V} (v : V) (h : k.T = 2 ∨ k.T = 3) : refsF (t ++ [(k, v)]) = refsF t := by
  funext l
  by_cases hl : ∃ x, l = .int .u64 x
  · obtain ⟨x, rfl⟩ := hl
    rw [refsF_int, refsF_int, List.findIdx?_append]
    rcases h with h | h <;> simp [List.findIdx?_cons, h]
  · have hl' : ∀ x, l ≠ .int .u64 x := fun x e => hl ⟨x, e⟩
    rw [refsF_other _ hl', refsF_other _ hl']
theorem refs_snoc {t : Tbl} (hi : ∀ e ∈ t, KeyOk e.1) {k : V} (v : V) (hw : wfB k = true) (hn : idx t k = none) (h2 : k.T ≠ 2) (h3 : k.T ≠ 3) : refsF (t ++ [(k, v)]) = setK (refsF t) (.int .u64 (packN k : Int)) (some t.length) := by
  funext l
  by_cases c : l = .int .u64 (packN k : Int)
  · rw [c, setK_same (by trivial), refsF_int, List.findIdx?_append]
    have := find_refs hi hw h2 h3
    rw [refsF_int, hn] at this
    rw [this]
    simp [List.findIdx?_cons, h2, h3]
  · rw [setK_other c]
    by_cases hl : ∃ x, l = .int .u64 x
    · obtain ⟨x, rfl⟩ := hl
      rw [refsF_int, refsF_int, List.findIdx?_append]
      have : ¬ (packN k : Int) = x := fun e => c (by rw [e])
      simp [List.findIdx?_cons, this]
    · have hl' : ∀ x, l ≠ .int .u64 x := fun x e => hl ⟨x, e⟩
      rw [refsF_other _ hl', refsF_other _ hl']
theorem inv_grown {t : Tbl} {a : List Nat} (hi : Inv t a) {k v : V} (hn : idx t k = none) (hl : t.length < 32) (hk : KeyOk k) (hv : ValOk v) : Inv (t ++ [(k, v)]) a where
  len := by simp; omega
  one := by
    rw [List.map_append, List.nodup_append]
    refine ⟨hi.one, by simp, ?_⟩
    intro x hx y hy
    simp at hy
    subst hy
    obtain ⟨e, he, rfl⟩ := List.mem_map.1 hx
    exact idx_none hn e he
  keys := by
    intro e he
    rcases List.mem_append.1 he with h | h
    · exact hi.keys e h
    · rw [List.mem_singleton.1 h]; exact hk
  vals := by
    intro e he
    rcases List.mem_append.1 he with h | h
    · exact hi.vals e h
    · rw [List.mem_singleton.1 h]; exact hv
  arr := by
    intro i h
    obtain ⟨p, e, h1, h2, h3⟩ := hi.arr i h
    exact ⟨p, e, h1, by rw [List.getElem?_append_left (List.getElem?_eq_some_iff.1 h2).1]; exact h2, h3⟩
theorem ordC_snoc (t : Tbl) (e : V × V) : ordC (t ++ [e]) = ordC t ++ entC e := by unfold ordC; rw [List.flatMap_append]; simp
theorem dead_snoc (t : Tbl) (k v : V) (hv : isNilB v = false) : deadN (t ++ [(k, v)]) = deadN t := by unfold deadN; rw [List.countP_append]; simp [hv]
/-- A new key that is no array key lies in no array place. -/
theorem not_inArr {t : Tbl} {a : List Nat} (hi : Inv t a) {k : V} (hk : KeyOk k) (h2 : k.T = 2) (hn : idx t k = none) : inArr a.length k.N = false := by
  cases h : inArr a.length k.N
  · rfl
  · unfold inArr at h
    simp at h
    obtain ⟨i, hi'⟩ : ∃ i : Nat, toIntV k.N = (i : Int) := ⟨(toIntV k.N).toNat, by omega⟩
    obtain ⟨p, _, hp⟩ := find_arr hi hk.wf hk.N h2 (i := i) (by omega) (by omega) hi'
    rw [hn] at hp; cases hp
theorem closed_grown {t : Tbl} {a : List Nat} (hc : Closed t a) {k : V} (v : V) (hn : idx t k = none) (hl : a.length ≤ 32) (hne : oneI k ≠ ((a.length + 1 : Nat) : Int)) : Closed (t ++ [(k, v)]) a := by
  unfold Closed at *
  rw [idx_snoc v hn, if_neg]
  · exact hc
  · rintro rfl
    apply hne
    show oneI ⟨2, fl (a.length + 1), []⟩ = _
    unfold oneI
    rw [if_pos rfl]
    exact (fl_small (a.length + 1) (by omega)).1
theorem key_is {k : V} (hk : KeyOk k) {n : Nat} (h : oneI k = ((n + 1 : Nat) : Int)) : k = numKey (n + 1) := by
  unfold oneI at h
  by_cases h2 : k.T = 2
  · rw [if_pos h2] at h
    have := toInt_fl hk.N (by omega) h
    have hS := (wf_other hk.wf (by rw [h2]; decide)).1
    obtain ⟨T, N, S⟩ := k
    simp only at *
    subst h2 hS this
    rfl
  · rw [if_neg h2] at h; omega
theorem setK_undo {f : Lit → Option Nat} {k : Lit} (hk : WideAt.IsKeyLit k) (hf : f k = none) (p : Option Nat) : setK (setK f k p) k none = f := by
  funext l
  by_cases c : l = k
  · subst c; rw [setK_same hk, hf]
  · rw [setK_other c, setK_other c]

/-- The list has a place more; the indexes are as they were. -/
structure PreAt (own : Nat → Nat) (w : World) (A h : Nat) (r : TabR) (vo : Value) (t : Tbl) : Prop where
  c0 : w.cell? ⟨A, h * 6, none⟩ = some vo
  c1 : w.cell? ⟨A, h * 6 + 1, none⟩ = some r.va
  c2 : w.cell? ⟨A, h * 6 + 2, none⟩ = some (.map (some r.bn))
  c3 : w.cell? ⟨A, h * 6 + 3, none⟩ = some (.map (some r.bs))
  c4 : w.cell? ⟨A, h * 6 + 4, none⟩ = some (.map (some r.br))
  c5 : w.cell? ⟨A, h * 6 + 5, none⟩ = some (.int .i64 (deadN t))
  fz : ∀ j, w.frozen? ⟨A, j, none⟩ = false
  lt : A < w.heap.size
  ord : w.ownsRow 0 108 6 vo t.length (ordC t)
  ordc : ∀ g, vo.ownBlock = some g → own g = 10 + 5 * h
  arr : w.ownsRow 0 21 1 r.va r.a.length (r.a.map i32V)
  arrc : ∀ g, r.va.ownBlock = some g → own g = 11 + 5 * h
  nums : MapAt 31 w r.bn r.nn (numsF r.t r.a.length)
  numsc : own r.bn = 12 + 5 * h
  strs : MapAt 9 w r.bs r.ns (strsF r.t)
  strsc : own r.bs = 13 + 5 * h
  refs : MapAt 31 w r.br r.nr (refsF r.t)
  refsc : own r.br = 14 + 5 * h
  sum : r.a.length + r.nn + r.ns + r.nr = r.t.length
  ca : own A = 2
theorem pre_of {own : Nat → Nat} {w w6 : World} {A h : Nat} {r : TabR} (hta : TabAt own w A h r) (hcA : own A = 2) {k v : V} (hv : isNilB v = false) {g c : Nat}
    (hrow : w6.ownsRow 0 108 6 (.slice (some ⟨g, 0, none⟩) (r.t.length + 1) c) (r.t.length + 1) (ordC r.t ++ entC (k, v))) (hg : w.grownBy w6 r.vo.ownBlock) (hgw : r.vo.ownBlock = some g ∨ g = w.heap.size + 1) :
    PreAt (fun j => if j = g ∧ w.heap.size ≤ j then 10 + 5 * h else own j) (w6.setCell ⟨A, h * 6, none⟩ (.slice (some ⟨g, 0, none⟩) (r.t.length + 1) c)) A h r (.slice (some ⟨g, 0, none⟩) (r.t.length + 1) c) (r.t ++ [(k, v)]) ∧
    Only own A h w (w6.setCell ⟨A, h * 6, none⟩ (.slice (some ⟨g, 0, none⟩) (r.t.length + 1) c)) := by
  obtain ⟨c0, c1, c2, c3, c4, c5, fz, lt, R⟩ := hta
  have hs := hg.size
  have hvA : ∀ k, r.vo.ownBlock = some k → k ≠ A := by rintro k hk rfl; have := R.ordc _ hk; rw [hcA] at this; omega
  have keepA : w6.heap[A]? = w.heap[A]? := hg.block A lt (fun e => hvA A e.symm rfl)
  have hcell : ∀ j, w6.cell? ⟨A, j, none⟩ = w.cell? ⟨A, j, none⟩ := fun j => World.cell?_of_block (a := ⟨A, j, none⟩) keepA
  have hfrz : ∀ j, w6.frozen? ⟨A, j, none⟩ = w.frozen? ⟨A, j, none⟩ := fun j => World.frozen?_of_block (a := ⟨A, j, none⟩) keepA
  have hgA : g ≠ A := by
    rcases hgw with e | e
    · exact hvA g e
    · omega
  have col : ∀ k cc, k < w.heap.size → own k = cc → cc ≠ 2 → cc ≠ 10 + 5 * h → (w6.setCell ⟨A, h * 6, none⟩ (.slice (some ⟨g, 0, none⟩) (r.t.length + 1) c)).heap[k]? = w.heap[k]? := by
    intro k cc hk h1 h2 h3
    rw [Below.heap_setCell _ _ _ _ (by rintro rfl; omega)]
    exact hg.block k hk (fun e => by have := R.ordc k e.symm; omega)
  refine ⟨⟨?_, ?_, ?_, ?_, ?_, ?_, ?_, ?_, ?_, ?_, ?_, ?_, ?_, ?_, ?_, ?_, ?_, ?_, R.sum, ?_⟩, ?_⟩
  · exact World.cell?_setCell_same' _ _ _ (by rw [hcell, c0]; rfl)
  · exact (World.cell?_setCell_other _ _ _ _ (by intro e; injection e; omega)).trans ((hcell _).trans c1)
  · exact (World.cell?_setCell_other _ _ _ _ (by intro e; injection e; omega)).trans ((hcell _).trans c2)
  · exact (World.cell?_setCell_other _ _ _ _ (by intro e; injection e; omega)).trans ((hcell _).trans c3)
  · exact (World.cell?_setCell_other _ _ _ _ (by intro e; injection e; omega)).trans ((hcell _).trans c4)
  · rw [dead_snoc _ _ _ hv]; exact (World.cell?_setCell_other _ _ _ _ (by intro e; injection e; omega)).trans ((hcell _).trans c5)
  · intro j; rw [World.frozen?_setCell, hfrz]; exact fz j
  · simp; omega
  · rw [List.length_append, List.length_singleton, ordC_snoc]
    exact ownsRow_block hrow (fun k hk => by cases hk; exact Below.heap_setCell _ _ _ _ hgA)
  · intro k hk
    cases hk
    show (if g = g ∧ w.heap.size ≤ g then 10 + 5 * h else own g) = 10 + 5 * h
    by_cases d : w.heap.size ≤ g
    · rw [if_pos ⟨rfl, d⟩]
    · rw [if_neg (fun e => d e.2)]
      rcases hgw with e | e
      · exact R.ordc g e
      · omega
  · exact ownsRow_block R.arr (fun k hk => col k _ (ownsRow_lt R.arr k hk) (R.arrc k hk) (by omega) (by omega))
  · intro k hk; exact (ite_own (ownsRow_lt R.arr k hk)).trans (R.arrc k hk)
  · exact R.nums.block (col _ _ R.nums.lt R.numsc (by omega) (by omega))
  · exact (ite_own R.nums.lt).trans R.numsc
  · exact R.strs.block (col _ _ R.strs.lt R.strsc (by omega) (by omega))
  · exact (ite_own R.strs.lt).trans R.strsc
  · exact R.refs.block (col _ _ R.refs.lt R.refsc (by omega) (by omega))
  · exact (ite_own R.refs.lt).trans R.refsc
  · exact (ite_own lt).trans hcA
  · have O6 : Only own A h w w6 := by
      cases hv : r.vo.ownBlock with
      | none =>
        rw [hv] at hg
        exact Only.of_below ⟨hg.os, hg.tape, hg.output, hg.size, fun k hk => hg.block k hk (by simp)⟩ lt
      | some b =>
        rw [hv] at hg
        exact (Only.refl own A h w).grown hg (hvA b hv) lt (.inl (by rw [R.ordc b hv]; omega))
    exact O6.set_arena (by omega) _

section
variable {own : Nat → Nat} {w w' : World} {A h : Nat} {r : TabR} {vo : Value} {k v : V}
/-- Another block b of the table's own has turned: what stands of the rest. -/
theorem pre_keep (H : PreAt own w A h r vo (r.t ++ [(k, v)])) {b cb : Nat} (hb : own b = cb) (hc : 11 + 5 * h ≤ cb ∧ cb < 15 + 5 * h) (hg : w.grownBy w' (some b)) :
    (∀ j, w'.cell? ⟨A, j, none⟩ = w.cell? ⟨A, j, none⟩) ∧ (∀ j, w'.frozen? ⟨A, j, none⟩ = false) ∧ A < w'.heap.size ∧ (∀ i ci, i < w.heap.size → own i = ci → ci ≠ cb → w'.heap[i]? = w.heap[i]?) ∧ Only own A h w w' := by
  have hbA : b ≠ A := by rintro rfl; have := H.ca; omega
  have keepA : w'.heap[A]? = w.heap[A]? := hg.block A H.lt (by intro e; injection e with e; exact hbA e.symm)
  refine ⟨fun j => World.cell?_of_block (a := ⟨A, j, none⟩) keepA, fun j => (World.frozen?_of_block (a := ⟨A, j, none⟩) keepA).trans (H.fz j), Nat.lt_of_lt_of_le H.lt hg.size, ?_, (Only.refl own A h w).grown hg hbA H.lt (.inl (by omega))⟩
  intro i ci hi h1 h2
  exact hg.block i hi (by intro e; injection e with e; subst e; omega)
theorem pre_num (H : PreAt own w A h r vo (r.t ++ [(k, v)])) (hi : Inv r.t r.a) (hn : idx r.t k = none) (hl : r.t.length < 32) (hk : KeyOk k) (hv : ValOk v) (h2 : k.T = 2)
    (hm : MapAt 31 w' r.bn (r.nn + 1) (setK (numsF r.t r.a.length) (.int .u64 (k.N : Int)) (some r.t.length))) (hg : w.grownBy w' (some r.bn)) :
    TabAt own w' A h { r with vo := vo, t := r.t ++ [(k, v)], nn := r.nn + 1 } ∧ Only own A h w w' := by
  obtain ⟨kc, kf, kl, kk, kO⟩ := pre_keep H H.numsc (by omega) hg
  refine ⟨⟨(kc _).trans H.c0, (kc _).trans H.c1, (kc _).trans H.c2, (kc _).trans H.c3, (kc _).trans H.c4, (kc _).trans H.c5, kf, kl, ?_⟩, kO⟩
  refine ⟨ownsRow_block H.ord (fun g hg' => kk g _ (ownsRow_lt H.ord g hg') (H.ordc g hg') (by omega)), H.ordc, ownsRow_block H.arr (fun g hg' => kk g _ (ownsRow_lt H.arr g hg') (H.arrc g hg') (by omega)), H.arrc, ?_, H.numsc, ?_, H.strsc, ?_, H.refsc, ?_, inv_grown hi hn hl hk hv⟩
  · show MapAt 31 w' r.bn (r.nn + 1) (numsF (r.t ++ [(k, v)]) r.a.length)
    rw [nums_snoc v hn h2 (wf_other hk.wf (by rw [h2]; decide)).1 (not_inArr hi hk h2 hn)]; exact hm
  · show MapAt 9 w' r.bs r.ns (strsF (r.t ++ [(k, v)]))
    rw [strs_snoc_other v hn (by rw [h2]; decide)]; exact H.strs.block (kk _ _ H.strs.lt H.strsc (by omega))
  · show MapAt 31 w' r.br r.nr (refsF (r.t ++ [(k, v)]))
    rw [refs_snoc_other v (.inl h2)]; exact H.refs.block (kk _ _ H.refs.lt H.refsc (by omega))
  · show r.a.length + (r.nn + 1) + r.ns + r.nr = (r.t ++ [(k, v)]).length
    rw [List.length_append, List.length_singleton]; have := H.sum; omega
theorem pre_str (H : PreAt own w A h r vo (r.t ++ [(k, v)])) (hi : Inv r.t r.a) (hn : idx r.t k = none) (hl : r.t.length < 32) (hk : KeyOk k) (hv : ValOk v) (h3 : k.T = 3)
    (hm : MapAt 9 w' r.bs (r.ns + 1) (setK (strsF r.t) (.string k.S) (some r.t.length))) (hg : w.grownBy w' (some r.bs)) :
    TabAt own w' A h { r with vo := vo, t := r.t ++ [(k, v)], ns := r.ns + 1 } ∧ Only own A h w w' := by
  obtain ⟨kc, kf, kl, kk, kO⟩ := pre_keep H H.strsc (by omega) hg
  refine ⟨⟨(kc _).trans H.c0, (kc _).trans H.c1, (kc _).trans H.c2, (kc _).trans H.c3, (kc _).trans H.c4, (kc _).trans H.c5, kf, kl, ?_⟩, kO⟩
  refine ⟨ownsRow_block H.ord (fun g hg' => kk g _ (ownsRow_lt H.ord g hg') (H.ordc g hg') (by omega)), H.ordc, ownsRow_block H.arr (fun g hg' => kk g _ (ownsRow_lt H.arr g hg') (H.arrc g hg') (by omega)), H.arrc, ?_, H.numsc, ?_, H.strsc, ?_, H.refsc, ?_, inv_grown hi hn hl hk hv⟩
  · show MapAt 31 w' r.bn r.nn (numsF (r.t ++ [(k, v)]) r.a.length)
    rw [nums_snoc_other v hn (by rw [h3]; decide)]; exact H.nums.block (kk _ _ H.nums.lt H.numsc (by omega))
  · show MapAt 9 w' r.bs (r.ns + 1) (strsF (r.t ++ [(k, v)]))
    rw [strs_snoc v hn h3 (wf_str hk.wf h3).1]; exact hm
  · show MapAt 31 w' r.br r.nr (refsF (r.t ++ [(k, v)]))
    rw [refs_snoc_other v (.inr h3)]; exact H.refs.block (kk _ _ H.refs.lt H.refsc (by omega))
  · show r.a.length + r.nn + (r.ns + 1) + r.nr = (r.t ++ [(k, v)]).length
    rw [List.length_append, List.length_singleton]; have := H.sum; omega
theorem pre_ref (H : PreAt own w A h r vo (r.t ++ [(k, v)])) (hi : Inv r.t r.a) (hn : idx r.t k = none) (hl : r.t.length < 32) (hk : KeyOk k) (hv : ValOk v) (h2 : k.T ≠ 2) (h3 : k.T ≠ 3)
    (hm : MapAt 31 w' r.br (r.nr + 1) (setK (refsF r.t) (.int .u64 (packN k : Int)) (some r.t.length))) (hg : w.grownBy w' (some r.br)) :
    TabAt own w' A h { r with vo := vo, t := r.t ++ [(k, v)], nr := r.nr + 1 } ∧ Only own A h w w' := by
  obtain ⟨kc, kf, kl, kk, kO⟩ := pre_keep H H.refsc (by omega) hg
  refine ⟨⟨(kc _).trans H.c0, (kc _).trans H.c1, (kc _).trans H.c2, (kc _).trans H.c3, (kc _).trans H.c4, (kc _).trans H.c5, kf, kl, ?_⟩, kO⟩
  refine ⟨ownsRow_block H.ord (fun g hg' => kk g _ (ownsRow_lt H.ord g hg') (H.ordc g hg') (by omega)), H.ordc, ownsRow_block H.arr (fun g hg' => kk g _ (ownsRow_lt H.arr g hg') (H.arrc g hg') (by omega)), H.arrc, ?_, H.numsc, ?_, H.strsc, ?_, H.refsc, ?_, inv_grown hi hn hl hk hv⟩
  · show MapAt 31 w' r.bn r.nn (numsF (r.t ++ [(k, v)]) r.a.length)
    rw [nums_snoc_other v hn h2]; exact H.nums.block (kk _ _ H.nums.lt H.numsc (by omega))
  · show MapAt 9 w' r.bs r.ns (strsF (r.t ++ [(k, v)]))
    rw [strs_snoc_other v hn h3]; exact H.strs.block (kk _ _ H.strs.lt H.strsc (by omega))
  · show MapAt 31 w' r.br (r.nr + 1) (refsF (r.t ++ [(k, v)]))
    rw [refs_snoc hi.keys v hk.wf hn h2 h3]; exact hm
  · show r.a.length + r.nn + r.ns + (r.nr + 1) = (r.t ++ [(k, v)]).length
    rw [List.length_append, List.length_singleton]; have := H.sum; omega
theorem pre_arr (H : PreAt own w A h r vo (r.t ++ [(k, v)])) (hi : Inv r.t r.a) (hn : idx r.t k = none) (hl : r.t.length < 32) (hk : KeyOk k) (hv : ValOk v) (h2 : k = numKey (r.a.length + 1)) {g c : Nat}
    (hrow : w'.ownsRow 0 21 1 (.slice (some ⟨g, 0, none⟩) (r.a.length + 1) c) (r.a.length + 1) (r.a.map i32V ++ [.int .i32 (r.t.length : Int)])) (hg : w.grownBy w' r.va.ownBlock) (hgw : r.va.ownBlock = some g ∨ g = w.heap.size + 1) :
    TabAt (fun j => if j = g ∧ w.heap.size ≤ j then 11 + 5 * h else own j) (w'.setCell ⟨A, h * 6 + 1, none⟩ (.slice (some ⟨g, 0, none⟩) (r.a.length + 1) c)) A h { r with vo := vo, t := r.t ++ [(k, v)], va := .slice (some ⟨g, 0, none⟩) (r.a.length + 1) c, a := r.a ++ [r.t.length] } ∧
    Only own A h w (w'.setCell ⟨A, h * 6 + 1, none⟩ (.slice (some ⟨g, 0, none⟩) (r.a.length + 1) c)) := by
  have hs := hg.size
  have hcA := H.ca
  have hal : r.a.length ≤ 32 := by have := H.sum; omega
  have hvA : ∀ k, r.va.ownBlock = some k → k ≠ A := by rintro k hk rfl; have := H.arrc _ hk; omega
  have keepA : w'.heap[A]? = w.heap[A]? := hg.block A H.lt (fun e => hvA A e.symm rfl)
  have hcell : ∀ j, w'.cell? ⟨A, j, none⟩ = w.cell? ⟨A, j, none⟩ := fun j => World.cell?_of_block (a := ⟨A, j, none⟩) keepA
  have hfrz : ∀ j, w'.frozen? ⟨A, j, none⟩ = w.frozen? ⟨A, j, none⟩ := fun j => World.frozen?_of_block (a := ⟨A, j, none⟩) keepA
  have hgA : g ≠ A := by
    rcases hgw with e | e
    · exact hvA g e
    · have := H.lt; omega
  have col : ∀ k cc, k < w.heap.size → own k = cc → cc ≠ 2 → cc ≠ 11 + 5 * h → (w'.setCell ⟨A, h * 6 + 1, none⟩ (.slice (some ⟨g, 0, none⟩) (r.a.length + 1) c)).heap[k]? = w.heap[k]? := by
    intro k cc hk h1 h2 h3
    rw [Below.heap_setCell _ _ _ _ (by rintro rfl; omega)]
    exact hg.block k hk (fun e => by have := H.arrc k e.symm; omega)
  have h2T : k.T = 2 := by rw [h2]; rfl
  have hin : idx (r.t ++ [(k, v)]) (numKey (r.a.length + 1)) = some r.t.length := by rw [idx_snoc v hn, if_pos h2.symm]
  refine ⟨⟨?_, ?_, ?_, ?_, ?_, ?_, ?_, ?_, ?_⟩, ?_⟩
  · exact (World.cell?_setCell_other _ _ _ _ (by intro e; injection e; omega)).trans ((hcell _).trans H.c0)
  · exact World.cell?_setCell_same' _ _ _ (by rw [hcell, H.c1]; rfl)
  · exact (World.cell?_setCell_other _ _ _ _ (by intro e; injection e; omega)).trans ((hcell _).trans H.c2)
  · exact (World.cell?_setCell_other _ _ _ _ (by intro e; injection e; omega)).trans ((hcell _).trans H.c3)
  · exact (World.cell?_setCell_other _ _ _ _ (by intro e; injection e; omega)).trans ((hcell _).trans H.c4)
  · exact (World.cell?_setCell_other _ _ _ _ (by intro e; injection e; omega)).trans ((hcell _).trans H.c5)
  · intro j; rw [World.frozen?_setCell, hfrz]; exact H.fz j
  · have := H.lt; simp; omega
  · refine ⟨?_, ?_, ?_, ?_, ?_, ?_, ?_, ?_, ?_, ?_, ?_, inv_snoc (inv_grown hi hn hl hk hv) hin⟩
    · exact ownsRow_block H.ord (fun k hk => col k _ (ownsRow_lt H.ord k hk) (H.ordc k hk) (by omega) (by omega))
    · intro k hk; exact (ite_own (ownsRow_lt H.ord k hk)).trans (H.ordc k hk)
    · show World.ownsRow _ 0 21 1 (.slice (some ⟨g, 0, none⟩) (r.a.length + 1) c) (r.a ++ [r.t.length]).length ((r.a ++ [r.t.length]).map i32V)
      rw [List.length_append, List.length_singleton, List.map_append]
      exact ownsRow_block hrow (fun k hk => by cases hk; exact Below.heap_setCell _ _ _ _ hgA)
    · intro k hk
      cases hk
      show (if g = g ∧ w.heap.size ≤ g then 11 + 5 * h else own g) = 11 + 5 * h
      by_cases d : w.heap.size ≤ g
      · rw [if_pos ⟨rfl, d⟩]
      · rw [if_neg (fun e => d e.2)]
        rcases hgw with e | e
        · exact H.arrc g e
        · omega
    · show MapAt 31 _ r.bn r.nn (numsF (r.t ++ [(k, v)]) (r.a ++ [r.t.length]).length)
      rw [List.length_append, List.length_singleton, nums_next (inv_grown hi hn hl hk hv).keys (by omega), nums_snoc v hn h2T (by rw [h2]; rfl) (not_inArr hi hk h2T hn)]
      rw [show k.N = fl (r.a.length + 1) from by rw [h2]; rfl, setK_undo (by trivial) (by rw [nums_fl (by omega) (by omega), ← h2]; exact hn)]
      exact H.nums.block (col _ _ H.nums.lt H.numsc (by omega) (by omega))
    · exact (ite_own H.nums.lt).trans H.numsc
    · show MapAt 9 _ r.bs r.ns (strsF (r.t ++ [(k, v)]))
      rw [strs_snoc_other v hn (by rw [h2T]; decide)]
      exact H.strs.block (col _ _ H.strs.lt H.strsc (by omega) (by omega))
    · exact (ite_own H.strs.lt).trans H.strsc
    · show MapAt 31 _ r.br r.nr (refsF (r.t ++ [(k, v)]))
      rw [refs_snoc_other v (.inl h2T)]
      exact H.refs.block (col _ _ H.refs.lt H.refsc (by omega) (by omega))
    · exact (ite_own H.refs.lt).trans H.refsc
    · show (r.a ++ [r.t.length]).length + r.nn + r.ns + r.nr = (r.t ++ [(k, v)]).length
      rw [List.length_append, List.length_append, List.length_singleton, List.length_singleton]; have := H.sum; omega
  · have O6 : Only own A h w w' := by
      cases hv : r.va.ownBlock with
      | none =>
        rw [hv] at hg
        exact Only.of_below ⟨hg.os, hg.tape, hg.output, hg.size, fun k hk => hg.block k hk (by simp)⟩ H.lt
      | some b =>
        rw [hv] at hg
        exact (Only.refl own A h w).grown hg (hvA b hv) H.lt (.inl (by rw [H.arrc b hv]; omega))
    exact O6.set_arena (by omega) _
end
end Go.Proofs.Qxb6500293aGreatRR
