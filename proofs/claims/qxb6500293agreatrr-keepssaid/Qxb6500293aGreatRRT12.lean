import Derived.Test.Qxb6500293aGreatRRT11
namespace Go.Proofs.Qxb6500293aGreatRR
open Go.RowKit
open Ieee (double)
set_option linter.unusedVariables false
set_option linter.unusedSimpArgs false

/-- What the sweep has noted. -/
def atV (f : Lit → Option Nat) (n : Nat) (left : Lit → Bool) (j : Nat) : Nat :=
  match decide (n < j) && !left (.int .u64 (fl j : Int)), f (.int .u64 (fl j : Int)) with
  | true, some p => p + 1
  | _, _ => 0
def atL (f : Lit → Option Nat) (n : Nat) (left : Lit → Bool) : List Value := (List.range 33).map fun j => i32V (atV f n left j)
def AtB (w : World) (b : Nat) (l : List Value) : Prop := w.heap[b]? = some (.cells l.toArray 171)

theorem AtB.cells {w : World} {b : Nat} {f : Lit → Option Nat} {n : Nat} {left : Lit → Bool} (h : AtB w b (atL f n left)) {j : Nat} (hj : j ≤ 32) : w.cell? ⟨b, j, none⟩ = some (.int .i32 (atV f n left j : Int)) ∧ w.frozen? ⟨b, j, none⟩ = false := by
  unfold AtB at h
  constructor
  · have e : (atL f n left)[j]? = some (i32V (atV f n left j)) := by
      unfold atL
      rw [List.getElem?_map, List.getElem?_range (by omega)]; rfl
    simp only [World.cell?, h]
    simpa [i32V] using e
  · simp [World.frozen?, h]
theorem atV_step {f : Lit → Option Nat} {n : Nat} {left : Lit → Bool} {N p : Nat} (hl : left (.int .u64 (N : Int)) = true) (hf : f (.int .u64 (N : Int)) = some p) (j : Nat) :
    atV f n (fun z => left z && !z.sameKey (.int .u64 (N : Int))) j = if fl j = N ∧ n < j then p + 1 else atV f n left j := by
  unfold atV
  dsimp only
  by_cases c : fl j = N
  · rw [c, hl, hf, WideAt.sameKey_self (a := .int .u64 (N : Int)) trivial]
    by_cases d : n < j
    · simp [d]
    · simp [d]
  · have hne : Lit.int .u64 (fl j : Int) ≠ .int .u64 (N : Int) := by intro e; injection e with _ e; omega
    rw [Maps.sameKey_ne hne, if_neg (fun h => c h.1), Bool.not_false, Bool.and_true]
theorem atL_store {f : Lit → Option Nat} {n : Nat} {left : Lit → Bool} {N p i : Nat} (hN : N < 18446744073709551616) (hl : left (.int .u64 (N : Int)) = true) (hf : f (.int .u64 (N : Int)) = some p) (hi : toIntV N = (i : Int)) (h1 : n < i) (h2 : i ≤ 32) :
    (atL f n left).set i (i32V (p + 1)) = atL f n (fun z => left z && !z.sameKey (.int .u64 (N : Int))) := by
  have hfl := toInt_fl hN (by omega) hi
  unfold atL
  apply List.ext_getElem?
  intro j
  rw [List.getElem?_set]
  simp only [List.getElem?_map, List.length_map, List.length_range]
  by_cases hj : j < 33
  · rw [List.getElem?_range hj]
    simp only [Option.map_some, atV_step hl hf]
    by_cases c : i = j
    · subst c; rw [if_pos rfl, if_pos (by omega), if_pos ⟨hfl.symm, h1⟩]
    · rw [if_neg c, if_neg]
      rintro ⟨e, _⟩
      exact c (fl_inj (by omega) (by omega) (by rw [e, hfl]))
  · rw [List.getElem?_eq_none (l := List.range 33) (by simpa using hj)]
    split
    · omega
    · rfl
theorem atL_same {f : Lit → Option Nat} {n : Nat} {left : Lit → Bool} {N p : Nat} (hl : left (.int .u64 (N : Int)) = true) (hf : f (.int .u64 (N : Int)) = some p) (hno : ¬ (toIntB N = true ∧ (n : Int) < toIntV N ∧ toIntV N ≤ 32)) :
    atL f n (fun z => left z && !z.sameKey (.int .u64 (N : Int))) = atL f n left := by
  unfold atL
  apply List.map_congr_left
  intro j hj
  rw [List.mem_range] at hj
  rw [atV_step hl hf, if_neg]
  rintro ⟨e, h1⟩
  have := fl_small j (by omega)
  rw [e] at this
  exact hno ⟨this.2, by rw [this.1]; omega, by rw [this.1]; omega⟩
theorem atL_start {f : Lit → Option Nat} {n : Nat} {left : Lit → Bool} (h : ∀ kl, left kl = (f kl).isSome) : atL f n left = List.replicate 33 (.int .i32 0) := by
  unfold atL
  rw [show List.replicate 33 (Value.int .i32 0) = (List.range 33).map (fun _ => Value.int .i32 0) from by rw [List.map_const', List.length_range]]
  apply List.map_congr_left
  intro j _
  unfold atV i32V
  rw [h]
  cases f (.int .u64 (fl j : Int)) with
  | none => simp
  | some p => simp
theorem AtB.set {w : World} {b : Nat} {l : List Value} (h : AtB w b l) (i : Nat) (v : Value) : AtB (w.setCell ⟨b, i, none⟩ v) b (l.set i v) := by
  unfold AtB at *
  rw [heap_setCell_same h]
  simp

/-- An append whose run is known. -/
theorem wpList_append_eq {P : Program} {w : World} {ops : Array Oper} {rest : List Oper} {o : Oper} {a : Act} {Q : Exit → Act → World → Prop} (hgd : o.guard = none) (s x : Operand) (t : TypeId)
    (ho : o.op = .call { callee := .builtin .append, args := #[s, x], argTypes := #[t, t] }) (v u v' : Value) (w' : World) (hs : a.eval s = v) (hx : a.eval x = u)
    (hr : (Builtin.append_ #[t, t] o.type #[v, u]).run P w = .ok v' w') (h : wpList P ops Q rest (a.put o.dst v') w') : wpList P ops Q (o :: rest) a w := by
  refine wpList_plain hgd fun K hK => ?_
  unfold Oper.wp execOp
  simp only [ho, resolve, invoke, builtin, Sem.run_bind, Sem.run_pure, Result.andThen_ok, List.map_toArray, List.map_cons, List.map_nil, hs, hx, hr]
  exact hK _ _ h
theorem ite_own {own : Nat → Nat} {g n c : Nat} {k : Nat} (h : k < n) : (fun k => if k = g ∧ n ≤ k then c else own k) k = own k := by
  show (if k = g ∧ n ≤ k then c else own k) = own k
  rw [if_neg (by omega)]
/-- One key moved from the number map to the array part. -/
theorem tab_moved {own : Nat → Nat} {w w3 w4 : World} {A h : Nat} {r : TabR} (hta : TabAt own w A h r) (hcA : own A = 2) {p : Nat} (hp : idx r.t (numKey (r.a.length + 1)) = some p)
    (hm : MapAt 31 w3 r.bn (r.nn - 1) (setK (numsF r.t r.a.length) (.int .u64 (fl (r.a.length + 1) : Int)) none)) (hg3 : w.grownBy w3 (some r.bn)) {g c : Nat}
    (hrow : w4.ownsRow 0 21 1 (.slice (some ⟨g, 0, none⟩) (r.a.length + 1) c) (r.a.length + 1) (r.a.map i32V ++ [.int .i32 (p : Int)])) (hg4 : w3.grownBy w4 r.va.ownBlock) (hgw : r.va.ownBlock = some g ∨ g = w3.heap.size + 1) :
    TabAt (fun k => if k = g ∧ w.heap.size ≤ k then 11 + 5 * h else own k) (w4.setCell ⟨A, h * 6 + 1, none⟩ (.slice (some ⟨g, 0, none⟩) (r.a.length + 1) c)) A h { r with va := .slice (some ⟨g, 0, none⟩) (r.a.length + 1) c, a := r.a ++ [p], nn := r.nn - 1 } ∧
    Only own A h w (w4.setCell ⟨A, h * 6 + 1, none⟩ (.slice (some ⟨g, 0, none⟩) (r.a.length + 1) c)) := by
  obtain ⟨c0, c1, c2, c3, c4, c5, fz, lt, R⟩ := hta
  have hal : r.a.length + 1 ≤ 33 := by have := R.sum; have := R.inv.len; omega
  have hbA : r.bn ≠ A := by intro e; have := R.numsc; rw [e, hcA] at this; omega
  have hvA : ∀ k, r.va.ownBlock = some k → k ≠ A := by rintro k hk rfl; have := R.arrc _ hk; rw [hcA] at this; omega
  have hs3 := hg3.size
  have hs4 := hg4.size
  have hpos : 1 ≤ r.nn := R.nums.pos (kl := .int .u64 (fl (r.a.length + 1) : Int)) (by rw [nums_fl (by omega) (by omega), hp]; rfl)
  -- blocks that stand
  have keep : ∀ k, k < w.heap.size → k ≠ r.bn → r.va.ownBlock ≠ some k → w4.heap[k]? = w.heap[k]? := fun k hk h1 h2 =>
    (hg4.block k (Nat.lt_of_lt_of_le hk hs3) (fun e => h2 e.symm)).trans (hg3.block k hk (fun e => h1 (by injection e)))
  have keepA : w4.heap[A]? = w.heap[A]? := keep A lt (Ne.symm hbA) (fun e => hvA A e rfl)
  have hcell : ∀ j, w4.cell? ⟨A, j, none⟩ = w.cell? ⟨A, j, none⟩ := fun j => World.cell?_of_block (a := ⟨A, j, none⟩) keepA
  have hfrz : ∀ j, w4.frozen? ⟨A, j, none⟩ = w.frozen? ⟨A, j, none⟩ := fun j => World.frozen?_of_block (a := ⟨A, j, none⟩) keepA
  have col : ∀ k cc, k < w.heap.size → own k = cc → cc ≠ 2 → cc ≠ 12 + 5 * h → cc ≠ 11 + 5 * h → (w4.setCell ⟨A, h * 6 + 1, none⟩ (.slice (some ⟨g, 0, none⟩) (r.a.length + 1) c)).heap[k]? = w.heap[k]? := by
    intro k cc hk h1 h2 h3 h4
    rw [Below.heap_setCell _ _ _ _ (by rintro rfl; omega)]
    exact keep k hk (by rintro rfl; have := R.numsc; omega) (fun e => by have := R.arrc k e; omega)
  have hgA : g ≠ A := by
    rcases hgw with e | e
    · exact hvA g e
    · omega
  have hgbn : g ≠ r.bn := by
    rcases hgw with e | e
    · rintro rfl; have := R.arrc _ e; have := R.numsc; omega
    · have := R.nums.lt; omega
  refine ⟨⟨?_, ?_, ?_, ?_, ?_, ?_, ?_, ?_, ?_⟩, ?_⟩
  · exact (World.cell?_setCell_other _ _ _ _ (by intro e; injection e; omega)).trans ((hcell _).trans c0)
  · exact World.cell?_setCell_same' _ _ _ (by rw [hcell, c1]; rfl)
  · exact (World.cell?_setCell_other _ _ _ _ (by intro e; injection e; omega)).trans ((hcell _).trans c2)
  · exact (World.cell?_setCell_other _ _ _ _ (by intro e; injection e; omega)).trans ((hcell _).trans c3)
  · exact (World.cell?_setCell_other _ _ _ _ (by intro e; injection e; omega)).trans ((hcell _).trans c4)
  · exact (World.cell?_setCell_other _ _ _ _ (by intro e; injection e; omega)).trans ((hcell _).trans c5)
  · intro j; rw [World.frozen?_setCell, hfrz]; exact fz j
  · simp; omega
  · refine ⟨?_, ?_, ?_, ?_, ?_, ?_, ?_, ?_, ?_, ?_, ?_, inv_snoc R.inv hp⟩
    · exact ownsRow_block R.ord (fun k hk => col k _ (ownsRow_lt R.ord k hk) (R.ordc k hk) (by omega) (by omega) (by omega))
    · intro k hk; exact (ite_own (ownsRow_lt R.ord k hk)).trans (R.ordc k hk)
    · show World.ownsRow _ 0 21 1 (.slice (some ⟨g, 0, none⟩) (r.a.length + 1) c) (r.a ++ [p]).length ((r.a ++ [p]).map i32V)
      rw [List.length_append, List.length_singleton, List.map_append]
      exact ownsRow_block hrow (fun k hk => by cases hk; exact Below.heap_setCell _ _ _ _ hgA)
    · intro k hk
      cases hk
      show (if g = g ∧ w.heap.size ≤ g then 11 + 5 * h else own g) = 11 + 5 * h
      by_cases d : w.heap.size ≤ g
      · rw [if_pos ⟨rfl, d⟩]
      · rw [if_neg (fun e => d e.2)]
        rcases hgw with e | e
        · exact R.arrc g e
        · omega
    · show MapAt 31 _ r.bn (r.nn - 1) (numsF r.t (r.a ++ [p]).length)
      rw [List.length_append, List.length_singleton, nums_next R.inv.keys (by omega)]
      refine hm.block ?_
      rw [Below.heap_setCell _ _ _ _ hbA]
      exact hg4.block _ hm.lt (fun e => by have := R.arrc _ e.symm; have := R.numsc; omega)
    · exact (ite_own R.nums.lt).trans R.numsc
    · exact R.strs.block (col _ _ R.strs.lt R.strsc (by omega) (by omega) (by omega))
    · exact (ite_own R.strs.lt).trans R.strsc
    · exact R.refs.block (col _ _ R.refs.lt R.refsc (by omega) (by omega) (by omega))
    · exact (ite_own R.refs.lt).trans R.refsc
    · show (r.a ++ [p]).length + (r.nn - 1) + r.ns + r.nr = r.t.length
      rw [List.length_append, List.length_singleton]
      have := R.sum; omega
  · have O3 := (Only.refl own A h w).grown hg3 hbA lt (.inl (by rw [R.numsc]; omega))
    have O4 : Only own A h w w4 := by
      cases hv : r.va.ownBlock with
      | none =>
        rw [hv] at hg4
        exact O3.trans (Only.of_below ⟨hg4.os, hg4.tape, hg4.output, hg4.size, fun k hk => hg4.block k hk (by simp)⟩ (by omega)) (fun _ _ => rfl)
      | some b =>
        rw [hv] at hg4
        exact O3.grown hg4 (hvA b hv) (by omega) (.inl (by rw [R.arrc b hv]; omega))
    exact O4.set_arena (by omega) _
theorem u64_nat {x : Int} (h : (Lit.int .u64 x).wf = true) : ∃ N : Nat, x = (N : Int) ∧ N < 18446744073709551616 := by
  have hmin : IntKind.u64.min = 0 := by decide +kernel
  have hmax : IntKind.u64.max = 18446744073709551615 := by decide +kernel
  simp [Lit.wf, hmin, hmax] at h
  exact ⟨x.toNat, by omega, by omega⟩
theorem numsF_lt {t : Tbl} {n : Nat} {l : Lit} {p : Nat} (h : numsF t n l = some p) : p < t.length := by
  by_cases hl : ∃ x, l = .int .u64 x
  · obtain ⟨x, rfl⟩ := hl
    rw [numsF_int] at h
    split at h
    · exact idx_lt h
    · cases h
  · rw [numsF_other _ _ (fun x e => hl ⟨x, e⟩)] at h; cases h
set_option maxRecDepth 8000 in
set_option maxHeartbeats 3200000 in
theorem migrate_any (own : Nat → Nat) (x nb : Nat) (vt : Value) (count A h : Nat) (r : TabR) (w : World) (ht : TabsAt w x (.pointer (some ⟨nb, 0, none⟩)) vt count) (hta : TabAt own w A h r) (hcA : own A = 2) (hcx : own x = 1) :
    Calls Tryz.prog 74 #[.pointer (some ⟨x, 0, none⟩), .pointer (some ⟨A, h * 6, none⟩)] w fun en w' => en = .returned (.tuple #[]) ∧ ∃ own' r', (∀ k, k < w.heap.size → own' k = own k) ∧ TabAt own' w' A h r' ∧ r'.t = r.t ∧ Closed r'.t r'.a ∧ Only own A h w w' := by
  obtain ⟨a0, a1, a2, a3, a4, a5, afz, lA, rep⟩ := id hta
  have hal : r.a.length ≤ 32 := by have := rep.sum; have := rep.inv.len; omega
  have hnn : r.nn ≤ 32 := by have := rep.sum; have := rep.inv.len; omega
  have hlen := fun ty => rep.nums.len Tryz.underlying102 ty
  by_cases h0 : r.nn = 0
  · have HC : Hid (Closed r.t r.a) := by
      have hm := rep.nums
      rw [h0] at hm
      have := hm.empty (.int .u64 (fl (r.a.length + 1) : Int))
      rw [nums_fl (by omega) (by omega)] at this
      exact this
    rw [h0] at hlen
    have HT : Hid (TabAt own w A h r) := hta
    clear ht hta rep afz h0
    go_enter Tryz.func74, Tryz.ntmps74
    go_wp2
    refine bodyPost_ret (results_none rfl _ _ _) rfl ?_
    exact ⟨rfl, own, r, fun _ _ => rfl, HT.out, rfl, HC.out, Only.refl _ _ _ _⟩
  · have b0 : ((r.nn : Int) == 0) = false := by rw [beq_eq_false_iff_ne]; omega
    obtain ⟨D, hD1, hD2, hD3, hD4⟩ := id rep.nums
    generalize hf : numsF r.t r.a.length = f at *
    have hown := hD1.alloc (.cells (List.replicate 33 (.int .i32 0)).toArray 171)
    have HT : Hid (TabAt own w A h r) := hta
    have HX : Hid (TabsAt w x (.pointer (some ⟨nb, 0, none⟩)) vt count) := ht
    have hne : ¬ A = w.heap.size := by omega
    clear afz h0
    go_enter Tryz.func74, Tryz.ntmps74
    go_wp2_with (first | (at_range; refine wpList_range_own _ rfl _ 102 rfl 31 21 nums_keyed Tryz.underlying102 _ r.bn r.nn D rfl hown ?_; intro w0 hrg0 hg0 hs0) | go_in)
    rw [World.size_alloc] at hrg0 hs0 ⊢
    go_frame
    have HAT : Hid (AtB w0 w.heap.size (atL f r.a.length (Maps.has D))) := by
      show AtB _ _ _
      rw [atL_start hD3]
      unfold AtB
      rw [hg0.block _ (by simp) (by simp)]
      show (w.heap.push _)[_]? = _
      simp
    have HB0 : Hid (Below w.heap.size w w0) := ⟨hg0.os, hg0.tape, hg0.output, by have := hg0.size; simp at this; omega, fun k hk => (hg0.block k (by simp; omega) (by simp)).trans (Below.heap_alloc _ _ _ hk)⟩
    have HD : Hid ((∀ kl, Maps.has D kl = (f kl).isSome) ∧ ∀ kl p, f kl = some p → p < 2147483648 ∧ D.atKey kl (.lit (.int .i32 0)) = .lit (.int .i32 (p : Int))) := ⟨hD3, hD4⟩
    have HF : Hid (numsF r.t r.a.length = f) := hf
    have HR : Hid (RepAt own w h r) := rep
    clear hg0 hs0 hown hD1 hD2 hD3 hD4 hf rep ht hta hlen
    go_loopw [5] (fun _ wr => ∃ left cnt, wr.ranges Tryz.prog 31 (plainElem Tryz.prog 21) r.bn (w.heap.size + 1) r.nn D left cnt ∧ AtB wr w.heap.size (atL f r.a.length left) ∧ Below w.heap.size w wr ∧ Hid (∀ kl, left kl = true → (f kl).isSome = true)) (fun _ wr => wr.rangeLeft r.bn (w.heap.size + 1))
    case atStart => exact ⟨_, _, hrg0, HAT.out, HB0.out, fun kl hk => by rw [← HD.out.1 kl]; exact hk⟩
    case round =>
      obtain ⟨left, cnt, hrg, hat, hB, HLF⟩ := hrel
      go_wp2_with (first | (at_next; refine wpList_next_ranges_ii _ rfl _ rfl 31 21 .u64 .i32 nums_keyed Tryz.underlying31 Tryz.underlying21 r.bn (w.heap.size + 1) r.nn _ _ _ rfl hrg ?_ ?_) | go_in)
      · intro _ hl0
        have HATF : Hid (∀ j, r.a.length < j → j ≤ 32 → atV f r.a.length left j = match idx r.t (numKey j) with
          | some p => p + 1
          | none => 0) := by
          intro j h1 h2
          unfold atV
          rw [hl0, ← HF.out, nums_fl (by omega) h1, decide_eq_true h1]
          cases idx r.t (numKey j) <;> rfl
        have HATB : Hid (AtB wr w.heap.size (atL f r.a.length left)) := hat
        have hT := HT.out.below hB
        have HTB : Hid (TabAt own wr A h r) := hT
        have HBW : Hid (Below w.heap.size w wr) := hB
        obtain ⟨ad, acap, hva⟩ := row_slice HR.out.arr
        have e1 := hT.c1
        rw [hva] at e1
        have HVG : Hid (∀ g, r.va.ownBlock = some g → g ≠ w.heap.size) := fun g hg => by have := ownsRow_lt HR.out.arr g hg; omega
        clear hrg hat hB hl0 HLF hT hva
        go_wp2_with fail
        go_loopw [9] (fun iv wr2 => ∃ own' r', iv = .int .i64 ((r'.a.length + 1 : Nat) : Int) ∧ r'.a.length ≤ 32 ∧ Hid ((∀ k, k < w.heap.size → own' k = own k) ∧ TabAt own' wr2 A h r' ∧ r'.t = r.t ∧ Only own A h w wr2 ∧ r.a.length ≤ r'.a.length ∧ AtB wr2 w.heap.size (atL f r.a.length left) ∧ (∀ g, r'.va.ownBlock = some g → g ≠ w.heap.size) ∧ r'.bn = r.bn)) (fun iv _ => 40 - (intOf iv).toNat)
        case atStart => exact ⟨own, r, by go_num, hal, show _ ∧ _ ∧ _ ∧ _ ∧ _ ∧ _ ∧ _ ∧ _ from ⟨fun _ _ => rfl, HTB.out, rfl, Only.of_below HBW.out lA, Nat.le_refl _, HATB.out, HVG.out, rfl⟩⟩
        case round =>
          obtain ⟨own', r', rfl, hal', HM⟩ := hrel
          by_cases hi : r'.a.length + 1 ≤ 32
          · have hidx := HATF.out (r'.a.length + 1) (by have := HM.out.2.2.2.2.1; omega) hi
            obtain ⟨t1, t2⟩ := HM.out.2.2.2.2.2.1.cells (j := r'.a.length + 1) hi
            rw [hidx] at t1
            clear hidx
            cases hp : idx r.t (numKey (r'.a.length + 1)) with
            | none =>
              rw [hp] at t1
              simp only at t1
              have HC : Hid (Closed r'.t r'.a) := by
                show _ = _
                rw [HM.out.2.2.1]; exact hp
              generalize r'.a.length = n' at *
              clear hp
              go_wp2
              go_end0
              exact ⟨rfl, own', r', HM.out.1, HM.out.2.1, HM.out.2.2.1, HC.out, HM.out.2.2.2.1⟩
            | some p =>
              rw [hp] at t1
              simp only at t1
              obtain ⟨ho', hT', ht', hO', hge, hAt, hvg, hbn⟩ := id HM.out
              have hp' : idx r'.t (numKey (r'.a.length + 1)) = some p := by rw [ht']; exact hp
              have hp32 : p < r'.t.length := idx_lt hp'
              have hl32 := hT'.rep.inv.len
              obtain ⟨e, he1, he2⟩ := idx_some hp'
              have cc := fun j hj => flat6 entC entC_len r'.t p e he1 j hj
              obtain ⟨og, oc, hvo, hoc, hog, k1⟩ := row_cell hT'.rep.ord (cc 1 (by omega))
              rw [he2] at k1
              have hkey := Maps.keyOf_int_mk Tryz.underlying31 (u64_wf (fl_lt (r'.a.length + 1)))
              obtain ⟨w3, hdel, hm3, hg3⟩ := (hT'.rep.nums.block (w' := wr.drew) rfl).drop nums_keyed Tryz.underlying102 hkey trivial (by rw [nums_fl (by omega) (by omega), hp']; rfl) 0
              have hg3' : wr.grownBy w3 (some r'.bn) := ⟨hg3.os, hg3.tape, hg3.output, hg3.size, hg3.block⟩
              have hvb : ∀ g, r'.va.ownBlock = some g → some g ≠ some r'.bn := fun g hg e => by have h1 := hT'.rep.arrc g hg; have h2 := hT'.rep.numsc; injection e with e; rw [e] at h1; omega
              have hrow3 := ownsRow_block (w' := w3) hT'.rep.arr (fun g hg => hg3'.block g (ownsRow_lt hT'.rep.arr g hg) (hvb g hg))
              obtain ⟨g, c, w4, happ, hrow4, hg4, hgw⟩ := append_arr hrow3 (by omega) (p : Int) 101
              obtain ⟨q1, q2⟩ := tab_moved hT' (by rw [ho' A lA]; exact hcA) hp' hm3 hg3' hrow4 hg4 hgw
              have hbA : r'.bn ≠ A := by intro e; have := hT'.rep.numsc; rw [e, ho' A lA, hcA] at this; omega
              have b1 : w3.cell? ⟨A, h * 6 + 1, none⟩ = some r'.va := (World.cell?_of_block (a := ⟨A, h * 6 + 1, none⟩) (hg3'.block A hT'.lt (by intro e; injection e with e; exact hbA e.symm))).trans hT'.c1
              have hvA : r'.va.ownBlock ≠ some A := fun e => by have := hT'.rep.arrc A e; rw [ho' A lA, hcA] at this; omega
              have b4 : w4.frozen? ⟨A, h * 6 + 1, none⟩ = false := by
                rw [World.frozen?_of_block (a := ⟨A, h * 6 + 1, none⟩) (hg4.block A (by have := hg3'.size; have := hT'.lt; omega) (Ne.symm hvA)), World.frozen?_of_block (a := ⟨A, h * 6 + 1, none⟩) (hg3'.block A hT'.lt (by intro e; injection e with e; exact hbA e.symm))]
                exact hT'.fz _
              have b5 : w4.cell? ⟨A, h * 6 + 1, none⟩ = some r'.va := (World.cell?_of_block (a := ⟨A, h * 6 + 1, none⟩) (hg4.block A (by have := hg3'.size; have := hT'.lt; omega) (Ne.symm hvA))).trans b1
              have d0 := hT'.c0
              rw [hvo] at d0
              have d2 := hT'.c2
              have lA3 : A < w3.heap.size := by have := hg3'.size; have := hT'.lt; omega
              have hAne : ¬ A = w3.heap.size := by omega
              have HREL : Hid (∃ own'' r'', (((r'.a.length + 1 + 1 : Nat) : Int) = ((r''.a.length + 1 : Nat) : Int) ∧ r''.a.length ≤ 32 ∧ Hid ((∀ k, k < w.heap.size → own'' k = own k) ∧ TabAt own'' (w4.setCell ⟨A, h * 6 + 1, none⟩ (.slice (some ⟨g, 0, none⟩) (r'.a.length + 1) c)) A h r'' ∧ r''.t = r.t ∧ Only own A h w (w4.setCell ⟨A, h * 6 + 1, none⟩ (.slice (some ⟨g, 0, none⟩) (r'.a.length + 1) c)) ∧ r.a.length ≤ r''.a.length ∧ AtB (w4.setCell ⟨A, h * 6 + 1, none⟩ (.slice (some ⟨g, 0, none⟩) (r'.a.length + 1) c)) w.heap.size (atL f r.a.length left) ∧ (∀ g', r''.va.ownBlock = some g' → g' ≠ w.heap.size) ∧ r''.bn = r.bn))) := by
                refine ⟨_, _, ?_, ?_, show _ ∧ _ ∧ _ ∧ _ ∧ _ ∧ _ ∧ _ ∧ _ from ⟨?_, q1, ht', hO'.trans q2 ho', ?_, ?_, ?_, hbn⟩⟩
                · show _ = (((r'.a ++ [p]).length + 1 : Nat) : Int)
                  rw [List.length_append, List.length_singleton]
                · show (r'.a ++ [p]).length ≤ 32
                  rw [List.length_append, List.length_singleton]; exact hi
                · intro k hk
                  exact (ite_own (Nat.lt_of_lt_of_le hk hO'.size)).trans (ho' k hk)
                · show _ ≤ (r'.a ++ [p]).length
                  rw [List.length_append]; omega
                · have hAt2 := hAt
                  have hwlt : w.heap.size < wr.heap.size := by
                    unfold AtB at hAt2
                    rcases Nat.lt_or_ge w.heap.size wr.heap.size with c | c
                    · exact c
                    · rw [Array.getElem?_eq_none c] at hAt2; cases hAt2
                  unfold AtB at *
                  rw [Below.heap_setCell _ _ _ _ (by dsimp only; omega), hg4.block _ (by have := hg3'.size; omega) (fun e => hvg _ e.symm rfl), hg3'.block _ hwlt (by intro e; injection e with e; have := HR.out.nums.lt; omega)]
                  exact hAt
                · intro g' hg'
                  cases hg'
                  show g ≠ w.heap.size
                  rcases hgw with e | e
                  · exact hvg g e
                  · have := hg3'.size; have := hO'.size; omega
              obtain ⟨va', hva'⟩ : ∃ va', r'.va = va' := ⟨_, rfl⟩
              rw [hva'] at b1 b5 happ
              rw [show (numKey (r'.a.length + 1)).N = fl (r'.a.length + 1) from rfl] at k1
              generalize fl (r'.a.length + 1) = FN at *
              generalize r'.t.length = tl at *
              generalize r'.a.length = n' at *
              clear hm3 hg3 hg3' hvb hrow3 hrow4 hg4 hgw q1 q2 hp' cc he1 he2 ho' hT' ht' hO' hge hAt hvg hbn hkey hp hva' HM
              go_wp2_with fail
              go_region
              all_goals
                go_wp2_with (at_builtin; refine wpList_append_eq rfl _ _ 101 rfl _ _ _ _ rfl rfl happ ?_)
                go_roundw
                case rel =>
                  obtain ⟨own'', r'', z1, z2, z3⟩ := HREL.out
                  exact ⟨own'', r'', by rw [← z1]; go_num, z2, z3⟩
                case measure => simp [intOf]; omega
          · have hn' : r'.a.length = 32 := by omega
            have HC : Hid (Closed r'.t r'.a) := by
              have R := HM.out.2.1.rep
              have h1 := R.sum
              have h2 := R.inv.len
              have h3 : r'.nn = 0 := by omega
              have hm := R.nums
              rw [h3] at hm
              have := hm.empty (.int .u64 (fl (r'.a.length + 1) : Int))
              rw [nums_fl (by omega) (by omega)] at this
              exact this
            rw [hn']
            clear hi
            go_wp2
            go_end0
            exact ⟨rfl, own', r', HM.out.1, HM.out.2.1, HM.out.2.2.1, HC.out, HM.out.2.2.2.1⟩
      · intro xk c w1 cnt1 hwx hwc hlx hatk hrg1 hlt hg1 hs1 hen
        obtain ⟨N, rfl, hN⟩ := u64_nat hwx
        obtain ⟨p, hp⟩ := Option.isSome_iff_exists.1 (HLF.out _ hlx)
        have hcp := (HD.out.2 _ p hp).2
        rw [hatk] at hcp
        have hcp : c = (p : Int) := by injection hcp with e; injection e
        subst hcp
        have hp32 : p < 32 := by
          have hh := hp
          rw [← HF.out] at hh
          have := numsF_lt hh
          have := HR.out.inv.len
          omega
        have hB1 : Below w.heap.size w w1 := hB.grown hg1 hB.size (fun k e => by cases e; omega)
        have hat1 : AtB w1 w.heap.size (atL f r.a.length left) := by
          have hh := hat
          unfold AtB at *
          rw [hg1.block _ (by rcases Nat.lt_or_ge w.heap.size wr.heap.size with c | c; exact c; rw [Array.getElem?_eq_none c] at hh; cases hh) (by simp)]
          exact hh
        have hX1 := (HX.out.below hB1).c0
        obtain ⟨ad, acap, hva⟩ := row_slice HR.out.arr
        have hA1 := (HT.out.below hB1).c1
        rw [hva] at hA1
        have H67 := fun w => toInt_R (.pointer (some ⟨nb, 0, none⟩)) N w hN
        have HLF2 : Hid (∀ kl, (left kl && !kl.sameKey (.int .u64 (N : Int))) = true → (f kl).isSome = true) := fun kl hk => HLF.out kl (by cases h : left kl; rw [h] at hk; cases hk; rfl)
        have HRG1 : Hid (w1.ranges Tryz.prog 31 (plainElem Tryz.prog 21) r.bn (w.heap.size + 1) r.nn D (fun z => left z && !z.sameKey (.int .u64 (N : Int))) cnt1) := hrg1
        have HRG : Hid (wr.ranges Tryz.prog 31 (plainElem Tryz.prog 21) r.bn (w.heap.size + 1) r.nn D left cnt) := hrg
        have HB1 : Hid (Below w.heap.size w w1) := hB1
        have HAT1 : Hid (AtB w1 w.heap.size (atL f r.a.length left)) := hat1
        have HLX : Hid (left (.int .u64 (N : Int)) = true) := hlx
        have HP : Hid (f (.int .u64 (N : Int)) = some p) := hp
        have hbs : r.bn ≠ w.heap.size := by have := HR.out.nums.lt; omega
        clear hrg hat hB hwx hwc hatk hg1 hs1 hp hlx hva hB1 hrg1
        by_cases hst : toIntB N = true ∧ (r.a.length : Int) < toIntV N ∧ toIntV N ≤ 32
        · obtain ⟨s1, s2, s3⟩ := hst
          obtain ⟨i, hi⟩ : ∃ i : Nat, toIntV N = (i : Int) := ⟨(toIntV N).toNat, by omega⟩
          have hset := atL_store (n := r.a.length) hN HLX.out HP.out hi (by omega) (by omega)
          have HS : Hid ((atL f r.a.length left).set i (i32V (p + 1)) = atL f r.a.length (fun z => left z && !z.sameKey (.int .u64 (N : Int)))) := hset
          obtain ⟨t1, t2⟩ := hat1.cells (j := i) (by omega)
          rw [s1, hi] at H67
          rw [hi] at s2 s3
          generalize atV f r.a.length left i = av at *
          have HNEW : Hid ((w1.setCell ⟨w.heap.size, i, none⟩ (.int .i32 ((p : Int) + 1))).ranges Tryz.prog 31 (plainElem Tryz.prog 21) r.bn (w.heap.size + 1) r.nn D (fun z => left z && !z.sameKey (.int .u64 (N : Int))) cnt1) :=
            HRG1.out.kept (row := some w.heap.size) ⟨rfl, rfl, rfl, by simp, fun k _ hk => Below.heap_setCell _ _ _ _ (fun e => hk (by rw [e]))⟩ (by intro e; injection e with e; exact hbs e) (by simp)
          clear hat1 hset hi s1
          go_wp2_with fail
          refine (H67 _).mono ?_; rintro e w' ⟨rfl, rfl⟩
          go_wp2_with fail
          go_roundw
          case rel =>
            refine ⟨_, cnt1, HNEW.out, ?_, HB1.out.setCell (p := ⟨w.heap.size, i, none⟩) (Nat.le_refl _) _, HLF2⟩
            · have := HAT1.out.set i (i32V (p + 1))
              rw [HS.out] at this
              exact this
          case measure => rw [HNEW.out.left_eq, HRG.out.left_eq]; exact hlt
        · have hsame := atL_same (n := r.a.length) HLX.out HP.out hst
          have HS : Hid (AtB w1 w.heap.size (atL f r.a.length (fun z => left z && !z.sameKey (.int .u64 (N : Int))))) := by rw [hsame]; exact hat1
          have hcs : toIntB N = false ∨ (toIntB N = true ∧ toIntV N ≤ (r.a.length : Int)) ∨ (toIntB N = true ∧ (r.a.length : Int) < toIntV N ∧ 32 < toIntV N) := by
            cases hB : toIntB N
            · exact .inl rfl
            · right
              by_cases c : toIntV N ≤ (r.a.length : Int)
              · exact .inl ⟨rfl, c⟩
              · right; exact ⟨rfl, by omega, by rcases Int.lt_or_le 32 (toIntV N) with d | d; exact d; exact absurd ⟨hB, by omega, d⟩ hst⟩
          generalize toIntV N = I at *
          clear hat1 hsame hst
          rcases hcs with hB | ⟨hB, hI⟩ | ⟨hB, hI, hI2⟩
          all_goals
            rw [hB] at H67
            go_wp2_with fail
            refine (H67 _).mono ?_; rintro e w' ⟨rfl, rfl⟩
            go_wp2_with fail
            go_roundw
            case rel => exact ⟨_, cnt1, HRG1.out, HS.out, HB1.out, HLF2⟩
            case measure => rw [HRG1.out.left_eq, HRG.out.left_eq]; exact hlt
end Go.Proofs.Qxb6500293aGreatRR
